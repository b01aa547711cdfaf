/- A part of the proof: P7. -/
import Derived.Test.YtlebiodkgkeomaaGreatP6
set_option linter.all false
set_option linter.all false
set_option maxRecDepth 100000
set_option maxHeartbeats 2000000
namespace Go.Ab.X
open Go.RowKit Go.Ab
inductive Bf(bs:Nat):List Tm->Prop
 | nil:Bf bs []
 | snoc {D R:List Tm}:Bf bs D->R.length=bs->srt R->Bf bs (D++R)
inductive Bk(bs:Nat):List Tm->Prop
 | last {R:List Tm}:R.length<=bs->srt R->Bk bs R
 | cons {R L:List Tm}:R.length=bs->srt R->Bk bs L->Bk bs (R++L)
theorem Bf.app{bs:Nat}{D:List Tm}(h:Bf bs D):∀ {R:List Tm},Bk bs R->Bk bs (D++R):=by
 induction h with
 | nil=>intro R h;exact h
 | snoc h1 h2 h3 ih=>intro R h;rw[List.append_assoc];exact ih (.cons h2 h3 h)
theorem Bk.split{bs:Nat}{R:List Tm}(h:Bk bs R)(hl:bs<=R.length):∃ R1 R2,R=R1++R2/\R1.length=bs/\srt R1/\Bk bs R2:=by
 cases h with
 | last h1 h2=>exact⟨R,[],by simp,by omega,h2,.last (by simp) List.Pairwise.nil⟩
 | cons h1 h2 h3=>exact⟨_,_,rfl,h1,h2,h3⟩
theorem Bk.srt{bs:Nat}{R:List Tm}(h:Bk bs R)(hl:R.length<=bs):srt R:=by
 cases h with
 | last h1 h2=>exact h2
 | @cons R L h1 h2 h3 =>
  have:L=[]:=List.eq_nil_of_length_eq_zero (by simp at hl;omega)
  subst this
  simpa using h2
theorem stable_blocks(n2:Int):∀(k:Nat) (R D:List Tm),R.length<=k->Bf 20 D->n2=((D++R).length:Int)->(D++R).length<=2 ^ 38 ->
  ∃ l',Bk 20 l'/\l'.Perm (D++R)/\LT (stable_tm.s1 n2) ((D.length:Int),((D.length+20:Nat):Int),D++R) (loopN (stable_tm.s2 n2) (20,l')):=by
 intro k
 induction k with
 | zero =>
  intro R D hk hD hn hB
  have:R=[]:=List.eq_nil_of_length_eq_zero (by omega)
  subst this
  obtain⟨L',h1,h2,h3⟩:=insSort_ok D [] [] (a2:=(D.length:Int)) (b3:=n2) rfl hn (by omega)
  refine⟨D++L',hD.app (.last (by rw[h2.length_eq];simp) h1),List.Perm.append_left D h2,.last fun next=>?_⟩
  simp only[stable_tm.s1]
  rw[decide_eq_false (show ¬ ((D.length+20:Nat):Int)<=n2 by rw[hn];simp;omega),cond_false,show D++[]=D++[]++[]from by simp,h3,Option.bind_some,List.append_nil]
 | succ k ih =>
  intro R D hk hD hn hB
  simp at hB
  by_cases hr:20<=R.length
  ·obtain⟨R1,R2,rfl,hr1⟩:∃ R1 R2,R=R1++R2/\R1.length=20:=⟨R.take 20,R.drop 20,(List.take_append_drop ..).symm,by simp;omega⟩
   simp at hk hr hB
   obtain⟨L',h1,h2,h3⟩:=insSort_ok D R1 R2 (a2:=(D.length:Int)) (b3:=((D.length+20:Nat):Int)) rfl (by simp;omega) (by simp;omega)
   have hL':L'.length=20:=by rw[h2.length_eq,hr1]
   obtain⟨l',g1,g2,g3⟩:=ih R2 (D++L') (by omega) (.snoc hD hL' h1) (by rw[hn];simp;omega) (by simp;omega)
   refine⟨l',g1,g2.trans ?_,.next (fun next=>?_) g3⟩
   ·rw[List.append_assoc];exact List.Perm.append_left _ (List.Perm.append_right _ h2)
   ·simp only[stable_tm.s1]
    rw[decide_eq_true (show((D.length+20:Nat):Int)<=n2 by rw[hn];simp;omega),cond_true,show D++(R1++R2)=D++R1++R2 from by simp,h3,Option.bind_some,wr (by omega) (by omega),show(D++L').length=D.length+20 from by simp[hL']]
    congr 1
  ·obtain⟨L',h1,h2,h3⟩:=insSort_ok D R [] (a2:=(D.length:Int)) (b3:=n2) rfl hn (by simp;omega)
   refine⟨D++L',hD.app (.last (by rw[h2.length_eq];omega) h1),List.Perm.append_left D h2,.last fun next=>?_⟩
   simp only[stable_tm.s1]
   rw[decide_eq_false (show ¬ ((D.length+20:Nat):Int)<=n2 by rw[hn];simp;omega),cond_false,show D++R=D++R++[]from by simp,h3,Option.bind_some,List.append_nil]
theorem stable_pass(n2:Int)(bs:Nat)(hbs:0<bs)(hbs2:bs<=2 ^ 38):∀(k:Nat) (R D:List Tm),R.length<=k->Bf (2 * bs) D->Bk bs R->n2=((D++R).length:Int)->(D++R).length<=2 ^ 38 ->
  ∃ l',Bk (2 * bs) l'/\l'.Perm (D++R)/\∀(next2:(Int×List Tm)->Option (List Tm)) (l0:List Tm),LT (stable_tm.s3 n2 ((bs:Int),l0) next2) ((D.length:Int),((D.length+2 * bs:Nat):Int),D++R) (next2 (((2 * bs:Nat):Int),l')):=by
 intro k
 induction k with
 | zero =>
  intro R D hk hD hR hn hB
  have:R=[]:=List.eq_nil_of_length_eq_zero (by omega)
  subst this
  refine⟨D++[],hD.app (.last (by simp) List.Pairwise.nil),List.Perm.refl _,fun next2 l0=>.last fun next=>?_⟩
  simp only[stable_tm.s3,jn]
  rw[decide_eq_false (show ¬ ((D.length+2 * bs:Nat):Int)<=n2 by rw[hn];simp;omega),cond_false,wr (n:=(D.length:Int)+(bs:Int)) (by omega) (by simp at hB;omega),decide_eq_false (show ¬ (D.length:Int)+(bs:Int)<n2 by rw[hn];simp;omega),cond_false]
  simp only[stable_tm.j4]
  rw[wr (by omega) (by omega)]
  congr 2
  omega
 | succ k ih =>
  intro R D hk hD hR hn hB
  simp at hB
  have wa:IntKind.i64.wrap ((D.length:Int)+(bs:Int))=((D.length+bs:Nat):Int):=by rw[wr (by omega) (by omega)];simp
  by_cases hr:2 * bs<=R.length
  ·obtain⟨R1,R',rfl,hr1,s1,hk1⟩:=hR.split (by omega)
   simp at hr hk hB
   obtain⟨R2,R3,rfl,hr2,s2,hk2⟩:=hk1.split (by omega)
   simp at hr hk hB
   obtain⟨M,h1,h2,h3⟩:=symMerge_ok _ D R1 R2 R3 (D.length:Int) ((D.length+bs:Nat):Int) ((D.length+2 * bs:Nat):Int) (Nat.le_refl _) (by omega) (by omega) s1 s2 rfl (by simp;omega) (by simp;omega) (by simp;omega)
   have hM:M.length=2 * bs:=by rw[h2.length_eq];simp;omega
   obtain⟨l',g1,g2,g3⟩:=ih R3 (D++M) (by omega) (.snoc hD hM h1) hk2 (by rw[hn];simp;omega) (by simp;omega)
   refine⟨l',g1,g2.trans ?_,fun next2 l0=>.next (fun next=>?_) (g3 next2 l0)⟩
   ·rw[List.append_assoc,<-List.append_assoc R1];exact List.Perm.append_left _ (List.Perm.append_right _ h2)
   ·simp only[stable_tm.s3]
    rw[decide_eq_true (show((D.length+2 * bs:Nat):Int)<=n2 by rw[hn];simp;omega),cond_true,wa,show D++(R1++(R2++R3))=D++R1++R2++R3 from by simp,h3,Option.bind_some,wr (n:=2 * (bs:Int)) (by omega) (by omega),wr (by omega) (by omega),show(D++M).length=D.length+2 * bs from by simp[hM]]
    congr 1
  ·have fin:∀(next2:(Int×List Tm)->Option (List Tm)) (l0 l':List Tm),stable_tm.j4 next2 ((bs:Int),l0) l'=next2 (((2 * bs:Nat):Int),l'):=by
    intro next2 l0 l'
    simp only[stable_tm.j4]
    rw[wr (by omega) (by omega)]
    congr 2
    omega
   by_cases hr1:bs<R.length
   ·obtain⟨R1,R2,rfl,hr1',s1,hk1⟩:=hR.split (by omega)
    simp at hr hk hB hr1
    have s2:=hk1.srt (by omega)
    obtain⟨M,h1,h2,h3⟩:=symMerge_ok _ D R1 R2 [] (D.length:Int) ((D.length+bs:Nat):Int) n2 (Nat.le_refl _) (by omega) (by omega) s1 s2 rfl (by simp;omega) (by rw[hn];simp) (by simp;omega)
    refine⟨D++M,hD.app (.last (by rw[h2.length_eq];simp;omega) h1),List.Perm.append_left D h2,fun next2 l0=>.last fun next=>?_⟩
    simp only[stable_tm.s3,jn]
    rw[decide_eq_false (show ¬ ((D.length+2 * bs:Nat):Int)<=n2 by rw[hn];simp;omega),cond_false,wa,decide_eq_true (show((D.length+bs:Nat):Int)<n2 by rw[hn];simp;omega),cond_true,show D++(R1++R2)=D++R1++R2++[]from by simp,h3,Option.bind_some,fin,List.append_nil]
   ·refine⟨D++R,hD.app (.last (by omega) (hR.srt (by omega))),List.Perm.refl _,fun next2 l0=>.last fun next=>?_⟩
    simp only[stable_tm.s3,jn]
    rw[decide_eq_false (show ¬ ((D.length+2 * bs:Nat):Int)<=n2 by rw[hn];simp;omega),cond_false,wa,decide_eq_false (show ¬ ((D.length+bs:Nat):Int)<n2 by rw[hn];simp;omega),cond_false,fin]
theorem stable_passes(n2:Int):∀(k bs:Nat) (l:List Tm),l.length<=k+bs->0<bs->Bk bs l->n2=(l.length:Int)->l.length<=2 ^ 38->∃ l',srt l'/\l'.Perm l/\LT (stable_tm.s2 n2) ((bs:Int),l) (some l'):=by
 intro k
 induction k using Nat.strongRecOn with
 | _ k ih =>
 intro bs l hk hbs hl hn hB
 by_cases hlt:bs<l.length
 ·obtain⟨l1,h1,h2,h3⟩:=stable_pass n2 bs hbs (by omega) l.length l [] (Nat.le_refl _) .nil hl (by simpa using hn) (by simpa using hB)
  have e1:l1.length=l.length:=by rw[h2.length_eq];simp
  obtain⟨l2,g1,g2,g3⟩:=ih (k-bs) (by omega) (2 * bs) l1 (by omega) (by omega) h1 (by rw[hn,e1]) (by omega)
  refine⟨l2,g1,g2.trans (by simpa using h2),.next (fun next=>?_) g3⟩
  simp only[stable_tm.s2]
  rw[decide_eq_true (show(bs:Int)<n2 by omega),cond_true,wr (by omega) (by omega)]
  have:=(h3 next l).eq
  simp at this
  exact this
 ·refine⟨l,hl.srt (by omega),List.Perm.refl _,.last fun next=>?_⟩
  simp only[stable_tm.s2]
  rw[decide_eq_false (show ¬ (bs:Int)<n2 by omega),cond_false]
theorem SortStable_ok(l:List Tm)(hB:l.length<=LIM):∃ l',srt l'/\l'.Perm l/\SortStable_tm l=some l':=by
 simp only[LIM]at hB
 obtain⟨l1,h1,h2,h3⟩:=stable_blocks (l.length:Int) l.length l [] (Nat.le_refl _) .nil (by simp) (by simp;omega)
 have e1:l1.length=l.length:=by rw[h2.length_eq];simp
 obtain⟨l2,g1,g2,g3⟩:=stable_passes (l.length:Int) l1.length 20 l1 (by omega) (by omega) h1 (by rw[e1]) (by omega)
 refine⟨l2,g1,g2.trans (by simpa using h2),?_⟩
 rw[SortStable_tm_eq,stable_tm_eq]
 have:=h3.eq
 simp at this
 rw[this]
 have:=g3.eq
 simp at this
 rw[this];rfl
end Go.Ab.X

set_option linter.all false
set_option maxRecDepth 100000
set_option maxHeartbeats 2000000
namespace Go.Ab.X
open Go.RowKit Go.Ab
theorem Grow_ok{n:Int}(h:0<=n)(h2:n<=LIM):Grow_tm n=some []:=by
 simp only[LIM]at h2
 rw[Grow_tm_eq]
 have w:IntKind.i64.wrap (n-IntKind.i64.wrap (0-0))=n:=by rw[wr (n:=0-0) (by omega) (by omega),wr (by omega) (by omega)];omega
 simp only[jn,decide_eq_false (show ¬ n<0 by omega),cond_false,Grow_tm.j1,w,Grow_tm.j2]
 by_cases h0:0<n
 ·rw[decide_eq_true h0,cond_true,if_pos ⟨h0,by simp only[LIM];omega⟩]
  simp<;>omega
 ·rw[decide_eq_false h0,cond_false]
theorem flat_take{ls:List (List Tm)}{i:Nat}{e:List Tm}(h:ls[i]? = some e):(ls.take i).flatten++e=(ls.take (i+1)).flatten:=by
 obtain⟨h1,rfl⟩:=List.getElem?_eq_some_iff.1 h
 rw[<-List.take_append_getElem h1,List.flatten_append]
 simp
theorem flat_le(ls:List (List Tm))(i:Nat):((ls.take i).flatten).length<=ls.flatten.length:=by
 conv=>rhs;rw[<-List.take_append_drop i ls,List.flatten_append,List.length_append]
 omega
theorem Concat_ok(ls:List (List Tm))(hB:ls.flatten.length<=LIM):Concat_tm ls=some ls.flatten:=by
 have hB':=hB
 simp only[LIM]at hB'
 have h2:loopN (Concat_tm.s3 ls) (0,[])=some ls.flatten:=by
  refine LT.inv (T:=Unit) ls (fun i _=>((i:Int),(ls.take i).flatten)) (fun _ _=>True) ?_ ?_ (t0:=()) trivial
  ·intro i e _ he _
   refine .inl ⟨(),fun next=>?_,trivial⟩
   have:=flat_le ls (i+1)
   rw[<-flat_take he,List.length_append]at this
   simp only[Concat_tm.s3,dlt he,ixg,he,Option.bind_some,cond_true]
   rw[if_pos (by omega),flat_take he,inc_nat]
  ·intro _ _ next
   simp only[Concat_tm.s3,dle,cond_false,List.take_length]
 rw[Concat_tm_eq]
 refine LT.inv (T:=Unit) ls (fun i _=>(((ls.take i).flatten.length:Int),(i:Int))) (fun _ _=>True) ?_ ?_ (t0:=()) trivial
 ·intro i e _ he _
  refine .inl ⟨(),fun next=>?_,trivial⟩
  have:=flat_le ls (i+1)
  rw[<-flat_take he,List.length_append]at this
  simp only[Concat_tm.s1,dlt he,ixg,he,Option.bind_some,cond_true,jn]
  rw[wr (by omega) (by omega),decide_eq_false (by omega),cond_false]
  simp only[Concat_tm.j2]
  rw[<-flat_take he,inc_nat,List.length_append];simp
 ·intro _ _ next
  simp only[Concat_tm.s1,dle,cond_false,List.take_length]
  rw[Grow_ok (by omega) (by simp only[LIM];omega),Option.bind_some,h2]
def dd':Tm->List Tm->List Tm
 | _,[]=>[]
 | x,y::T=>if cmpTm y x=0 then dd' y T else y::dd' y T
def dd:List Tm->List Tm
 | []=>[]
 | x::T=>x::dd' x T
theorem dd'_mem:∀(T:List Tm) (x:Tm),∀ w∈dd' x T,w∈T
 | [],_,w,h=>by cases h
 | y::T,x,w,h=>by
  unfold dd' at h
  split at h
  ·exact List.mem_cons_of_mem _ (dd'_mem T y w h)
  ·rcases List.mem_cons.1 h with rfl|h
   ·exact List.mem_cons_self ..
   ·exact List.mem_cons_of_mem _ (dd'_mem T y w h)
theorem dd'_len:∀(T:List Tm) (x:Tm),(dd' x T).length<=T.length
 | [],_=>Nat.le_refl _
 | y::T,x=>by
  unfold dd'
  have:=dd'_len T y
  split<;>simp<;>omega
theorem dd'_srt:∀(T:List Tm) (x:Tm),srt (x::T)->(x::dd' x T).Pairwise ltT
 | [],x,_=>List.pairwise_singleton ..
 | y::T,x,h=>by
  obtain⟨h1,h2⟩:=List.pairwise_cons.1 h
  have ih:=dd'_srt T y h2
  obtain⟨i1,i2⟩:=List.pairwise_cons.1 ih
  have hxy:=h1 y (List.mem_cons_self ..)
  unfold dd'
  split
  ·exact List.pairwise_cons.2 ⟨fun w hw=>hxy.lt (i1 w hw),i2⟩
  ·rename_i hne
   have hlt:ltT x y:=by
    unfold ltT;unfold leT at hxy
    have:=neg_T x y
    omega
   refine List.pairwise_cons.2 ⟨fun w hw=>?_,ih⟩
   rcases List.mem_cons.1 hw with rfl|hw
   ·exact hlt
   ·exact hlt.le.lt (i1 w hw)
theorem dd'_cov:∀(T:List Tm) (x:Tm),∀ y∈x::T,∃ z∈x::dd' x T,cmpTm y z=0
 | [],x,y,hy=>⟨x,List.mem_cons_self ..,by rw[List.mem_singleton.1 hy];exact cmpTm_refl x⟩
 | t::T,x,y,hy=>by
  rcases List.mem_cons.1 hy with rfl|hy
  ·exact⟨y,List.mem_cons_self ..,cmpTm_refl y⟩
  ·obtain⟨z,hz,hc⟩:=dd'_cov T t y hy
   unfold dd'
   split
   ·rename_i he
    rcases List.mem_cons.1 hz with rfl|hz
    ·exact⟨x,List.mem_cons_self ..,sameT_trans hc he⟩
    ·exact⟨z,List.mem_cons_of_mem _ hz,hc⟩
   ·exact⟨z,List.mem_cons_of_mem _ hz,hc⟩
theorem compact_in(off cnt:Nat):∀(T U G:List Tm) (x:Tm) (k2:Nat),off+k2=(U++G).length+1->1<=k2->off+cnt=(U++G++x::T).length->(U++G++x::T).length<=2 ^ 40 ->
  LT CompactFunc_tm.s2 ((U.length:Int),off,cnt,(k2:Int),U++G++x::T) (some (U++dd' x T)):=by
 intro T
 induction T with
 | nil =>
  intro U G x k2 h1 h2 h3 hB
  simp at h1 h3
  refine .last fun next=>?_
  simp only[CompactFunc_tm.s2]
  rw[decide_eq_false (show ¬ (k2:Int)<(cnt:Int) by omega),cond_false]
  have e:(List.length (U++G++[x]))=U.length+(G.length+1):=by simp
  rw[Int.toNat_natCast,Int.toNat_natCast,if_pos ⟨by omega,by omega,by omega,by omega⟩,if_pos (by omega)]
  have e2:List.take U.length (U++G++[x])=U:=by simp
  rw[e2,if_pos ⟨by omega,by omega,by simp<;>omega,by omega⟩,if_pos (by simp)]
  simp[dd']
 | cons y T ih =>
  intro U G x k2 h1 h2 h3 hB
  simp at h1 h3 hB
  obtain⟨k1,rfl⟩:∃ k1,k2=k1+1:=⟨k2-1,by omega⟩
  have w:IntKind.i64.wrap (((k1+1:Nat):Int)-1)=(k1:Int):=by rw[wr (by omega) (by omega)];omega
  have gy:(U++G++x::y::T)[off+(k1+1)]? = some y:=by
   have:=get_mid2 (U++G) [] T x y
   rw[show(U++G).length+1+([]:List Tm).length=off+(k1+1)from by simp;omega]at this
   simpa using this
  have gx:(U++G++x::y::T)[off+k1]? = some x:=by
   have:=get_mid (U++G) (y::T) x
   rw[show(U++G).length=off+k1 from by simp;omega]at this
   exact this
  have st:∀ next,CompactFunc_tm.s2 ((U.length:Int),off,cnt,((k1+1:Nat):Int),U++G++x::y::T) next=(if cmpTm y x=0 then next ((U.length:Int),off,cnt,((k1+2:Nat):Int),U++G++x::y::T)else next (((U.length+1:Nat):Int),off,cnt,((k1+2:Nat):Int),(U++G++x::y::T).set U.length y)):=by
   intro next
   simp only[CompactFunc_tm.s2,jn]
   rw[decide_eq_true (show((k1+1:Nat):Int)<(cnt:Int) by omega),cond_true,if_pos ⟨by omega,by omega⟩,Int.toNat_natCast,gy,Option.bind_some,w,if_pos ⟨by omega,by omega⟩,Int.toNat_natCast,gx,Option.bind_some,terms_Same_ok,Option.bind_some]
   by_cases hc:cmpTm y x=0
   ·rw[if_pos hc,decide_eq_true hc,Bool.not_true,cond_false]
    simp only[CompactFunc_tm.j3]
    congr 4
   ·rw[if_neg hc,decide_eq_false hc,Bool.not_false,cond_true,if_pos ⟨by omega,by omega⟩,Option.bind_some,wrL rfl (by simp<;>omega),Int.toNat_natCast,wr (by omega) (by omega)]
    simp only[CompactFunc_tm.j3]
    congr 4
  by_cases hc:cmpTm y x=0
  ·have:=ih U (G++[x]) y (k1+2) (by simp;omega) (by omega) (by simp;omega) (by simp;omega)
   rw[show dd' x (y::T)=dd' y T from by rw[dd',if_pos hc]]
   refine .next (fun next=>(st next).trans (if_pos hc)) ?_
   simpa using this
  ·obtain⟨g,G',hg⟩:∃ g G',G++[x]=g::G':=by
    cases G with
    | nil=>exact⟨x,[],rfl⟩
    | cons g G=>exact⟨g,G++[x],rfl⟩
   have hgl:G.length+1=G'.length+1:=by have:=congrArg List.length hg;simpa using this
   have e:(U++G++x::y::T).set U.length y=U++[y]++G'++y::T:=by
    rw[show U++G++x::y::T=U++g::(G'++y::T)from by rw[show U++G++x::y::T=U++(G++[x])++y::T from by simp,hg];simp,set_mid];simp
   have:=ih (U++[y]) G' y (k1+2) (by simp;omega) (by omega) (by simp;omega) (by simp;omega)
   rw[show dd' x (y::T)=y::dd' y T from by rw[dd',if_neg hc]]
   refine .next (fun next=>(st next).trans (if_neg hc)) ?_
   rw[e]
   simpa using this
theorem compact_out:∀(T A:List Tm) (x:Tm),(A++x::T).length<=2 ^ 40->LT CompactFunc_tm.s1 (((A.length+1:Nat):Int),A++x::T) (some (A++x::dd' x T)):=by
 intro T
 induction T with
 | nil =>
  intro A x hB
  refine .last fun next=>?_
  simp only[CompactFunc_tm.s1]
  rw[decide_eq_false (by simp),cond_false];rfl
 | cons y T ih =>
  intro A x hB
  simp at hB
  have gy:=get_mid2 A [] T x y
  have gx:=get_mid A ([]++y::T) x
  have e0:A.length+1+([]:List Tm).length=A.length+1:=rfl
  rw[e0]at gy
  simp only[List.nil_append]at gy gx
  have w:IntKind.i64.wrap (((A.length+1:Nat):Int)-1)=(A.length:Int):=by rw[wr (by omega) (by omega)];omega
  have st:∀ next,CompactFunc_tm.s1 (((A.length+1:Nat):Int),A++x::y::T) next=(if cmpTm y x=0 then loopN CompactFunc_tm.s2 (((A.length+1:Nat):Int),A.length+1,(A++x::y::T).length-(A.length+1),1,A++x::y::T)else next (((A.length+2:Nat):Int),A++x::y::T)):=by
   intro next
   simp only[CompactFunc_tm.s1]
   rw[decide_eq_true (show((A.length+1:Nat):Int)<((A++x::y::T).length:Int) by simp;omega),cond_true,rdL rfl gy,rdL w gx,terms_Same_ok,Option.bind_some]
   by_cases hc:cmpTm y x=0
   ·rw[if_pos hc,decide_eq_true hc,cond_true,if_pos ⟨by omega,by simp;omega,by omega,by omega⟩,Int.toNat_natCast,Int.toNat_natCast]
   ·rw[if_neg hc,decide_eq_false hc,cond_false]
    congr 1
  by_cases hc:cmpTm y x=0
  ·refine .last fun next=>(st next).trans ?_
   rw[if_pos hc]
   have:=(compact_in (A.length+1) ((A++x::y::T).length-(A.length+1)) T (A++[x]) [] y 1 (by simp) (Nat.le_refl _) (by simp<;>omega) (by simp<;>omega)).eq
   rw[show dd' x (y::T)=dd' y T from by rw[dd',if_pos hc]]
   simp at this ⊢
   exact this
  ·rw[show dd' x (y::T)=y::dd' y T from by rw[dd',if_neg hc]]
   refine .next (fun next=>(st next).trans (if_neg hc)) ?_
   have:=ih (A++[x]) y (by simp;omega)
   rw[show(A++[x]).length+1=A.length+2 from by simp]at this
   simpa using this
theorem Compact_ok(l:List Tm)(hB:l.length<=2 ^ 40):CompactFunc_tm l=some (dd l):=by
 rw[CompactFunc_tm_eq]
 match l with
 | []=>rfl
 | [x]=>rfl
 | x::y::T =>
  rw[decide_eq_false (by simp;omega),cond_false]
  exact(compact_out (y::T) [] x (by simpa using hB)).eq
structure SetH(u l:List Tm):Prop where
 st:u.Pairwise ltT
 mem:∀ x∈u,x∈l
 cov:∀ x∈l,∃ y∈u,cmpTm x y=0
 len:u.length<=l.length
theorem kernel_union_ok(a b:List Tm)(hB:a.length+b.length<=LIM):∃ u,SetH u (a++b)/\kernel_union [a,b]=some u:=by
 have hB':=hB
 simp only[LIM]at hB'
 have e:([a,b]:List (List Tm)).flatten=a++b:=by simp
 obtain⟨l',h1,h2,h3⟩:=SortStable_ok (a++b) (by simpa using hB)
 refine⟨dd l',?_,?_⟩
 ·have hl:=h2.length_eq
  cases l' with
  | nil=>exact⟨List.Pairwise.nil,(fun x hx=>by cases hx),(fun x hx=>by have:=h2.mem_iff.2 hx;cases this),by simp[dd]⟩
  | cons x T =>
   refine⟨dd'_srt T x h1,fun y hy=>?_,fun y hy=>dd'_cov T x y (h2.mem_iff.2 hy),?_⟩
   ·rcases List.mem_cons.1 hy with rfl|hy
    ·exact h2.mem_iff.1 (List.mem_cons_self ..)
    ·exact h2.mem_iff.1 (List.mem_cons_of_mem _ (dd'_mem T x y hy))
   ·rw[<-hl]
    have:=dd'_len T x
    simp[dd];omega
 ·rw[kernel_union_eq,Concat_ok _ (by rw[e];simpa using hB),Option.bind_some,e,h3,Option.bind_some,Compact_ok _ (by rw[h2.length_eq];simp;omega)];rfl
end Go.Ab.X

set_option linter.all false
set_option maxRecDepth 100000
set_option maxHeartbeats 2000000
namespace Go.Ab.X
open Go.RowKit Go.Ab
def nsame(t h:Tm):Bool:=!decide (cmpTm h t=0)
theorem del_loop(t:Tm):∀(T U G:List Tm),0<G.length->(U++G++T).length<=2 ^ 40 ->
  LT (DeleteFunc_tm.s1 t) ((U.length:Int),((U++G).length:Int),U++G++T) (some (U++T.filter (nsame t))):=by
 intro T
 induction T with
 | nil =>
  intro U G hg hB
  refine .last fun next=>?_
  simp only[DeleteFunc_tm.s1]
  rw[decide_eq_false (by simp),cond_false]
  have e:(List.length (U++G++[]))=U.length+G.length:=by simp
  rw[Int.toNat_natCast,Int.toNat_natCast,if_pos ⟨by omega,by omega,by omega,by omega⟩,if_pos (by omega)]
  have e2:List.take U.length (U++G++[])=U:=by simp
  rw[e2,if_pos ⟨by omega,by omega,by simp<;>omega,by omega⟩,if_pos (by simp)]
  simp
 | cons y T ih =>
  intro U G hg hB
  simp at hB
  have gy:=get_mid (U++G) T y
  have st:∀ next,DeleteFunc_tm.s1 t ((U.length:Int),((U++G).length:Int),U++G++y::T) next=(if cmpTm y t=0 then next ((U.length:Int),(((U++G).length+1:Nat):Int),U++G++y::T)else next (((U.length+1:Nat):Int),(((U++G).length+1:Nat):Int),(U++G++y::T).set U.length y)):=by
   intro next
   simp only[DeleteFunc_tm.s1,jn]
   rw[decide_eq_true (show((U++G).length:Int)<((U++G++y::T).length:Int) by simp;omega),cond_true,rdL rfl gy,kernel_without1_eq,terms_Same_ok]
   by_cases hc:cmpTm y t=0
   ·rw[if_pos hc,decide_eq_true hc]
    simp only[Option.bind_some,Bool.not_true,cond_false,DeleteFunc_tm.j2]
    congr 3
   ·rw[if_neg hc,decide_eq_false hc]
    simp only[Option.bind_some,Bool.not_false,cond_true,DeleteFunc_tm.j2]
    rw[wrL rfl (by simp<;>omega),Int.toNat_natCast,wr (by omega) (by omega)]
    congr 3
  by_cases hc:cmpTm y t=0
  ·have:=ih U (G++[y]) (by simp) (by simp;omega)
   refine .next (fun next=>(st next).trans (if_pos hc)) ?_
   rw[show(y::T).filter (nsame t)=T.filter (nsame t)from by rw[List.filter_cons,nsame,decide_eq_true hc];rfl]
   rw[show((U++(G++[y])).length:Int)=(((U++G).length+1:Nat):Int)from by simp;omega]at this
   simpa using this
  ·cases G with
   | nil=>simp at hg
   | cons g G =>
    have e:(U++g::G++y::T).set U.length y=U++[y]++(G++[y])++T:=by
     rw[show U++g::G++y::T=U++g::(G++y::T)from by simp,set_mid];simp
    have:=ih (U++[y]) (G++[y]) (by simp) (by simp at hB ⊢;omega)
    refine .next (fun next=>(st next).trans (if_neg hc)) ?_
    rw[e,show(y::T).filter (nsame t)=y::T.filter (nsame t)from by rw[List.filter_cons,nsame,decide_eq_false hc];rfl]
    rw[show((U++[y]).length:Int)=((U.length+1:Nat):Int)from by simp,show((U++[y]++(G++[y])).length:Int)=(((U++g::G).length+1:Nat):Int)from by simp;omega]at this
    simpa using this
theorem first_at(t:Tm):∀ h:List Tm,(h.filter (nsame t)=h)\/∃ A d B,h=A++d::B/\A.filter (nsame t)=A/\cmpTm d t=0
 | []=>.inl rfl
 | x::h=>by
  by_cases hc:cmpTm x t=0
  ·exact .inr ⟨[],x,h,rfl,rfl,hc⟩
  ·have hn:nsame t x=true:=by rw[nsame,decide_eq_false hc];rfl
   rcases first_at t h with e|⟨A,d,B,rfl,e,hd⟩
   ·exact .inl (by rw[List.filter_cons,if_pos hn,e])
   ·exact .inr ⟨x::A,d,B,rfl,by rw[List.filter_cons,if_pos hn,e],hd⟩
theorem without1_code(h t:Tm):tyo Bool (ans X 143 (.p .bool) [.v .tm h,.ip (.v .tm t) 0 []])=some (decide (cmpTm h t=0)):=by
 have:=kernel_without1_eq h t
 rw[terms_Same_ok]at this
 exact this
theorem IndexFunc_none(t:Tm)(h:List Tm)(hf:h.filter (nsame t)=h):IndexFunc_tm h 143 t=some (-1):=by
 rw[IndexFunc_tm_eq]
 refine LT.inv (T:=Unit) h (fun i _=>(i:Int)) (fun _ _=>True) ?_ ?_ (t0:=()) trivial
 ·intro i x _ hx _
  have hn:=List.filter_eq_self.1 hf x (List.mem_of_getElem? hx)
  refine .inl ⟨(),fun next=>?_,trivial⟩
  simp only[IndexFunc_tm.s1,dlt hx,ixg,hx,Option.bind_some,cond_true,without1_code]
  rw[show decide (cmpTm x t=0)=false from by rw[nsame]at hn;simpa using hn,cond_false,inc_nat]
 ·intro _ _ next
  simp only[IndexFunc_tm.s1,dle,cond_false]
theorem IndexFunc_some(t:Tm)(A B:List Tm)(d:Tm)(hf:A.filter (nsame t)=A)(hd:cmpTm d t=0):IndexFunc_tm (A++d::B) 143 t=some (A.length:Int):=by
 rw[IndexFunc_tm_eq]
 refine LT.inv (T:=Unit) (A++d::B) (fun i _=>(i:Int)) (fun i _=>i<=A.length) ?_ ?_ (t0:=()) (Nat.zero_le _)
 ·intro i x _ hx hi
  rcases Nat.lt_or_eq_of_le hi with hlt|rfl
  ·have hx':A[i]? = some x:=by rw[List.getElem?_append_left hlt]at hx;exact hx
   have hn:=List.filter_eq_self.1 hf x (List.mem_of_getElem? hx')
   refine .inl ⟨(),fun next=>?_,hlt⟩
   simp only[IndexFunc_tm.s1,dlt hx,ixg,hx,Option.bind_some,cond_true,without1_code]
   rw[show decide (cmpTm x t=0)=false from by rw[nsame]at hn;simpa using hn,cond_false,inc_nat]
  ·have:x=d:=by have:=get_mid A B d;rw[hx]at this;exact Option.some.inj this
   subst this
   refine .inr fun next=>?_
   simp only[IndexFunc_tm.s1,dlt hx,ixg,hx,Option.bind_some,cond_true,without1_code]
   rw[decide_eq_true hd,cond_true]
 ·intro _ hi next
  simp at hi
  omega
theorem DeleteFunc_ok(t:Tm)(h:List Tm)(hB:h.length<=2 ^ 40):DeleteFunc_tm h t=some (h.filter (nsame t)):=by
 rw[DeleteFunc_tm_eq]
 rcases first_at t h with e|⟨A,d,B,rfl,e,hd⟩
 ·rw[IndexFunc_none t h e,Option.bind_some,e];rfl
 ·simp at hB
  rw[IndexFunc_some t A B d e hd,Option.bind_some,decide_eq_false (by omega),cond_false,wr (by omega) (by omega)]
  have:=(del_loop t B A [d] (by simp) (by simp;omega)).eq
  rw[show((A++[d]).length:Int)=(A.length:Int)+1 from by simp,show A++[d]++B=A++d::B from by simp]at this
  rw[this,List.filter_append,e,List.filter_cons,nsame,decide_eq_true hd];rfl
theorem Clone_tmo_ok(l:List Tm)(hB:l.length<=LIM):Clone_tmo l=some l:=by
 rw[Clone_tmo_eq,if_pos (by simpa using hB)]
 cases l with
 | nil=>exact agree_of rfl rfl
 | cons x l=>rfl
theorem kernel_without_ok(l:List Tm)(t:Tm)(hB:l.length<=LIM):kernel_without l t=some (l.filter (nsame t)):=by
 rw[kernel_without_eq,Clone_tmo_ok l hB,Option.bind_some,DeleteFunc_ok t l (by simp only[LIM]at hB;omega)];rfl
end Go.Ab.X
