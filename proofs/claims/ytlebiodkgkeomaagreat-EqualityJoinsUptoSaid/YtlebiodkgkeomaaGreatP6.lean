/- A part of the proof: P6. -/
import Derived.Test.YtlebiodkgkeomaaGreatQN
import Derived.Test.YtlebiodkgkeomaaGreatQO
set_option linter.all false
set_option linter.all false
set_option maxRecDepth 100000
set_option maxHeartbeats 1000000
namespace Go.Ab.X
open Go.RowKit Go.Ab
section
variable {R:Type}
theorem rdL{l:List Tm}{k:Nat}{x:Tm}{j:Int}(hj:j=(k:Int))(h:l[k]? = some x)(f:Tm->Option R):(if 0<=j/\j<(List.length l:Int)then((l[Int.toNat j]?).bind f)else none)=f x:=by
 have:=(List.getElem?_eq_some_iff.1 h).1
 subst hj
 rw[if_pos (by omega),Int.toNat_natCast,h];rfl
theorem wrL{l:List Tm}{k:Nat}{j:Int}(hj:j=(k:Int))(h:k<l.length)(r:Option R):(if 0<=j/\j<(List.length l:Int)then(if Int.toNat j<List.length l then r else none)else none)=r:=by
 subst hj
 rw[if_pos (by omega),Int.toNat_natCast,if_pos h]
theorem get_mid(P S:List Tm)(x:Tm):(P++x::S)[P.length]? = some x:=by simp
theorem set_mid(P S:List Tm)(x y:Tm):(P++x::S).set P.length y=P++y::S:=by simp
theorem get_mid2(P M S:List Tm)(x y:Tm):(P++x::(M++y::S))[P.length+1+M.length]? = some y:=by
 rw[show P++x::(M++y::S)=(P++x::M)++y::S from by simp,show P.length+1+M.length=(P++x::M).length from by simp;omega];exact get_mid _ _ _
theorem set_mid2(P M S:List Tm)(x y z:Tm):(P++x::(M++y::S)).set (P.length+1+M.length) z=P++x::(M++z::S):=by
 rw[show P++x::(M++y::S)=(P++x::M)++y::S from by simp,show P.length+1+M.length=(P++x::M).length from by simp;omega,set_mid];simp
theorem swLo(P M S:List Tm)(x y:Tm){i j:Int}(hi:i=(P.length:Int))(hj:j=((P.length+1+M.length:Nat):Int)){l:List Tm}(hl:l=P++x::(M++y::S))(next:List Tm->Option R) :
  (if 0<=j/\j<(List.length l:Int)then((l[Int.toNat j]?).bind fun e6=>(if 0<=i/\i<(List.length l:Int)then((l[Int.toNat i]?).bind fun e7=>(if 0<=i/\i<(List.length l:Int)then(if Int.toNat i<List.length l then(if 0<=j/\j<(List.length (List.set l (Int.toNat i) e6):Int)then(if Int.toNat j<List.length (List.set l (Int.toNat i) e6)then next (List.set (List.set l (Int.toNat i) e6) (Int.toNat j) e7)else none)else none)else none)else none))else none))else none)=next (P++y::(M++x::S)):=by
 subst hl
 have h1:=get_mid2 P M S x y
 have h2:=get_mid P (M++y::S) x
 rw[rdL hj h1,rdL hi h2,wrL hi (by simp),wrL hj (by simp;omega)]
 subst hi hj
 simp only[Int.toNat_natCast,set_mid,set_mid2]
theorem swHi(P M S:List Tm)(x y:Tm){i j:Int}(hi:i=((P.length+1+M.length:Nat):Int))(hj:j=(P.length:Int)){l:List Tm}(hl:l=P++x::(M++y::S))(next:List Tm->Option R) :
  (if 0<=j/\j<(List.length l:Int)then((l[Int.toNat j]?).bind fun e6=>(if 0<=i/\i<(List.length l:Int)then((l[Int.toNat i]?).bind fun e7=>(if 0<=i/\i<(List.length l:Int)then(if Int.toNat i<List.length l then(if 0<=j/\j<(List.length (List.set l (Int.toNat i) e6):Int)then(if Int.toNat j<List.length (List.set l (Int.toNat i) e6)then next (List.set (List.set l (Int.toNat i) e6) (Int.toNat j) e7)else none)else none)else none)else none))else none))else none)=next (P++y::(M++x::S)):=by
 subst hl
 have h1:=get_mid2 P M S x y
 have h2:=get_mid P (M++y::S) x
 rw[rdL hj h2,rdL hi h1,wrL hi (by simp;omega),wrL hj (by simp)]
 subst hi hj
 simp only[Int.toNat_natCast,set_mid,set_mid2]
end
def srt(l:List Tm):Prop:=l.Pairwise leT
theorem cmp_code(a b:Tm):terms_Compare a b=some (cmpTm a b):=terms_Compare_ok a b
theorem ins_inner(P S:List Tm)(x:Tm)(a2:Int)(ha:a2=(P.length:Int))(hlen:P.length<=2 ^ 40):∀(D1 D2:List Tm),D1.length<=2 ^ 40->srt (D1++D2)->(∀ d∈D2,ltT x d) ->
  ∃ D,srt D/\D.Perm (D1++x::D2)/\∀(next1:(Int×List Tm)->Option (List Tm)) (s4:Int×List Tm),LT (insSort_tm.s2 next1 s4 a2) (((P++D1).length:Int),P++D1++x::(D2++S)) (next1 (s4.1+1,P++D++S)):=by
 intro D1
 induction h:D1.length generalizing D1 with
 | zero =>
  intro D2 hl hs hx
  have:D1=[]:=List.eq_nil_of_length_eq_zero h
  subst this
  refine⟨x::D2,?_,List.Perm.refl _,fun next1 s4=>.last fun next=>?_⟩
  ·exact List.pairwise_cons.2 ⟨fun d hd=>(hx d hd).le,hs⟩
  ·simp only[insSort_tm.s2,jn,List.append_nil]
   rw[show decide (a2<(P.length:Int))=false from decide_eq_false (by omega)]
   simp only[cond_false,insSort_tm.j3]
   simp
 | succ n ih =>
  intro D2 hl hs hx
  obtain⟨D0,d,rfl⟩:∃ D0 d,D1=D0++[d]:=⟨D1.dropLast,D1.getLast (by intro e;subst e;cases h),(List.dropLast_concat_getLast _).symm⟩
  have hn:D0.length=n:=by simpa using h
  have e1:((P++(D0++[d])).length:Int)=((((P++D0).length+1+([]:List Tm).length:Nat)):Int):=by simp;omega
  have w1:IntKind.i64.wrap (((P++(D0++[d])).length:Int)-1)=((P++D0).length:Int):=by
   rw[wr (by simp;omega) (by simp;simp at hl;omega)];simp;omega
  have c1:decide (a2<((P++(D0++[d])).length:Int))=true:=decide_eq_true (by simp;omega)
  have hl2:P++(D0++[d])++x::(D2++S)=(P++D0)++d::([]++x::(D2++S)):=by simp
  have r1:=get_mid2 (P++D0) [] (D2++S) d x
  have r2:=get_mid (P++D0) ([]++x::(D2++S)) d
  by_cases hc:cmpTm x d<0
  ·obtain⟨D,h1,h2,h3⟩:=ih D0 (by omega) (d::D2) (by simp at hl;omega) (by simpa using hs) (by
    intro y hy
    rcases List.mem_cons.1 hy with rfl|hy
    ·exact hc
    ·exact hx y hy)
   refine⟨D,h1,?_,fun next1 s4=>?_⟩
   ·refine h2.trans ?_
    rw[List.append_assoc]
    exact List.Perm.append_left _ (List.Perm.swap ..)
   ·refine LT.next (s':=(((P++D0).length:Int),P++D0++x::(d::D2++S))) (fun next=>?_) (h3 next1 s4)
    simp only[insSort_tm.s2,jn,c1,cond_true]
    rw[hl2,rdL e1 r1,rdL w1 r2,cmp_code,Option.bind_some,decide_eq_true hc]
    simp only[insSort_tm.j3,cond_true]
    refine(swHi (P++D0) [] (D2++S) d x e1 w1 rfl fun l=>next (IntKind.i64.wrap (((P++(D0++[d])).length:Int)-1),l)).trans ?_
    rw[w1];rfl
  ·refine⟨D0++[d]++x::D2,?_,List.Perm.refl _,fun next1 s4=>.last fun next=>?_⟩
   ·have hdx:=leT_of_not hc
    unfold srt at hs ⊢
    rw[List.pairwise_append]at hs ⊢
    obtain⟨p1,p2,p3⟩:=hs
    refine⟨p1,List.pairwise_cons.2 ⟨fun y hy=>(hx y hy).le,p2⟩,fun y hy z hz=>?_⟩
    have hyd:leT y d:=by
     rw[List.pairwise_append]at p1
     rcases List.mem_append.1 hy with hy|hy
     ·exact p1.2.2 y hy d (List.mem_singleton.2 rfl)
     ·rw[List.mem_singleton.1 hy];exact .refl d
    rcases List.mem_cons.1 hz with rfl|hz
    ·exact hyd.trans hdx
    ·exact p3 y hy z hz
   ·simp only[insSort_tm.s2,jn,c1,cond_true]
    rw[hl2,rdL e1 r1,rdL w1 r2,cmp_code,Option.bind_some,decide_eq_false hc]
    simp only[insSort_tm.j3,cond_false]
    congr 2
    simp
theorem ins_outer(P S:List Tm)(a2 b3:Int)(ha:a2=(P.length:Int))(hlen:P.length<=2 ^ 39):∀(R D:List Tm),srt D->0<D.length->b3=((P++D++R).length:Int)->b3<=2 ^ 39 ->
  ∃ D',srt D'/\D'.Perm (D++R)/\LT (insSort_tm.s1 b3 a2) (((P++D).length:Int),P++D++(R++S)) (some (P++D'++S)):=by
 intro R
 induction R with
 | nil =>
  intro D hs _ hb _
  refine⟨D,hs,by simp,.last fun next=>?_⟩
  simp only[insSort_tm.s1]
  rw[show decide (((P++D).length:Int)<b3)=false from decide_eq_false (by rw[hb];simp)]
  simp
 | cons x R ih =>
  intro D hs hd hb hB
  have hb':(P++D++x::R).length<=2 ^ 39:=by omega
  have hd':D.length<=2 ^ 40:=by simp at hb';omega
  obtain⟨D1,h1,h2,h3⟩:=ins_inner P (R++S) x a2 ha (by omega) D [] hd' (by simpa using hs) (by simp)
  have hl1:D1.length=D.length+1:=by rw[h2.length_eq];simp
  obtain⟨D2,g1,g2,g3⟩:=ih D1 h1 (by omega) (by rw[hb];simp;omega) hB
  refine⟨D2,g1,g2.trans ?_,?_⟩
  ·refine(List.Perm.append_right R h2).trans ?_
   simp
  ·refine LT.next (s':=(((P++D1).length:Int),P++D1++(R++S))) (fun next=>?_) g3
   simp only[insSort_tm.s1]
   rw[show decide (((P++D).length:Int)<b3)=true from decide_eq_true (by rw[hb];simp;omega),cond_true]
   refine(LT.eq (h3 next _)).trans ?_
   congr 2
   simp;omega
theorem insSort_ok(P L S:List Tm){a2 b3:Int}(ha:a2=(P.length:Int))(hb:b3=((P++L).length:Int))(hB:(P++L).length<=2 ^ 39):∃ L',srt L'/\L'.Perm L/\insSort_tm (P++L++S) a2 b3=some (P++L'++S):=by
 have hp:P.length<=2 ^ 39:=by simp at hB;omega
 have w:IntKind.i64.wrap (a2+1)=((P.length+1:Nat):Int):=by rw[ha,wr (by omega) (by omega)];omega
 cases L with
 | nil =>
  refine⟨[],List.Pairwise.nil,List.Perm.refl _,?_⟩
  rw[insSort_tm_eq,w]
  refine LT.eq (.last fun next=>?_)
  simp only[insSort_tm.s1]
  rw[show decide (((P.length+1:Nat):Int)<b3)=false from decide_eq_false (by rw[hb];simp;omega)];rfl
 | cons x L =>
  obtain⟨D,h1,h2,h3⟩:=ins_outer P S a2 b3 ha hp L [x] (List.pairwise_singleton ..) (by simp) (by rw[hb];simp) (by rw[hb];omega)
  refine⟨D,h1,by simpa using h2,?_⟩
  rw[insSort_tm_eq,w]
  have:=h3.eq
  simp at this ⊢
  exact this
theorem swapRange_ok(P M S:List Tm){a2 b3 n4:Int}:∀(A2 B2 A1 B1:List Tm),A2.length=B2.length->A1.length=B1.length->a2=(P.length:Int)->b3=((P++A1++A2++M).length:Int)->n4=((A1++A2).length:Int)->(P++A1++A2++M++A1++A2).length<=2 ^ 40 ->
  LT (swapRange_tm.s1 n4 b3 a2) ((A1.length:Int),P++B1++A2++M++A1++B2++S) (some (P++B1++B2++M++A1++A2++S)):=by
 intro A2
 induction A2 with
 | nil =>
  intro B2 A1 B1 h1 h2 ha hb hn _
  have:B2=[]:=List.eq_nil_of_length_eq_zero (by simpa using h1.symm)
  subst this
  refine .last fun next=>?_
  simp only[swapRange_tm.s1]
  rw[show decide ((A1.length:Int)<n4)=false from decide_eq_false (by rw[hn];simp)];rfl
 | cons x A2 ih =>
  intro B2 A1 B1 h1 h2 ha hb hn hB
  cases B2 with
  | nil=>simp at h1
  | cons y B2 =>
   simp at hB
   have wi:IntKind.i64.wrap (a2+(A1.length:Int))=((P++B1).length:Int):=by rw[ha,wr (by omega) (by omega)];simp;omega
   have wj:IntKind.i64.wrap (b3+(A1.length:Int))=(((P++B1).length+1+(A2++M++A1).length:Nat):Int):=by rw[hb,wr (by omega) (by simp;omega)];simp;omega
   refine LT.next (s':=(((A1++[x]).length:Int),P++(B1++[y])++A2++M++(A1++[x])++B2++S)) (fun next=>?_) ?_
   ·simp only[swapRange_tm.s1]
    rw[show decide ((A1.length:Int)<n4)=true from decide_eq_true (by rw[hn];simp;omega),cond_true]
    refine(swLo (P++B1) (A2++M++A1) (B2++S) x y wi wj (by simp) fun l=>next ((A1.length:Int)+1,l)).trans ?_
    simp
   ·have:=ih B2 (A1++[x]) (B1++[y]) (by simpa using h1) (by simpa using h2) ha (by rw[hb];simp) (by rw[hn];simp) (by simp<;>omega)
    simpa using this
theorem swap_ok(P A M B S:List Tm){a2 b3 n4:Int}(h:A.length=B.length)(ha:a2=(P.length:Int))(hb:b3=((P++A++M).length:Int))(hn:n4=(A.length:Int))(hB:(P++A++M++B).length<=2 ^ 40){l:List Tm}(hl:l=P++A++M++B++S):swapRange_tm l a2 b3 n4=some (P++B++M++A++S):=by
 subst hl
 rw[swapRange_tm_eq]
 have:=(swapRange_ok P M S A B [] [] (a2:=a2) (b3:=b3) (n4:=n4) h rfl ha (by simpa using hb) (by simpa using hn) (by simp at hB ⊢;omega)).eq
 simpa using this
theorem rot_loop(m3:Int):∀(n:Nat) (P X Y S:List Tm),X.length+Y.length<=n->0<X.length->0<Y.length->m3=((P++X).length:Int)->(P++X++Y).length<=2 ^ 40 ->
  LT (rotate_tm.s1 m3) ((X.length:Int),(Y.length:Int),P++X++Y++S) (some (P++Y++X++S)):=by
 intro n
 induction n with
 | zero=>intro P X Y S h h1;omega
 | succ n ih =>
  intro P X Y S h h1 h2 hm hB
  simp at hB
  have w1:IntKind.i64.wrap (m3-(X.length:Int))=(P.length:Int):=by rw[hm,wr (by simp<;>omega) (by simp<;>omega)];simp
  by_cases he:X.length=Y.length
  ·refine .last fun next=>?_
   simp only[rotate_tm.s1]
   rw[show decide ((X.length:Int)=(Y.length:Int))=true from decide_eq_true (by omega),w1]
   simp only[Bool.not_true,cond_false]
   rw[swap_ok P X [] Y S he rfl (by rw[hm];simp) rfl (by simp;omega) (by simp)]
   simp
  ·by_cases hlt:Y.length<X.length
   ·obtain⟨X1,X2,rfl,hx1⟩:∃ X1 X2,X=X1++X2/\X1.length=Y.length:=⟨X.take Y.length,X.drop Y.length,(List.take_append_drop ..).symm,by simp;omega⟩
    simp at h h1 hlt hB he
    refine LT.next (s':=((X2.length:Int),(X1.length:Int),(P++Y)++X2++X1++S)) (fun next=>?_) ?_
    ·simp only[rotate_tm.s1]
     rw[show decide (((X1++X2).length:Int)=(Y.length:Int))=false from decide_eq_false (by simp;omega),w1,show decide ((Y.length:Int)<((X1++X2).length:Int))=true from decide_eq_true (by simp;omega)]
     simp only[Bool.not_false,cond_true]
     rw[swap_ok P X1 X2 Y S hx1 rfl (by rw[hm];simp) (by omega) (by simp;omega) (by simp),Option.bind_some,wr (by simp;omega) (by simp;omega),hx1]
     congr 2
     simp;omega
    ·have:=ih (P++Y) X2 X1 S (by omega) (by omega) (by omega) (by rw[hm];simp;omega) (by simp;omega)
     simpa using this
   ·obtain⟨Y1,Y2,rfl,hy2⟩:∃ Y1 Y2,Y=Y1++Y2/\Y2.length=X.length:=⟨Y.take (Y.length-X.length),Y.drop (Y.length-X.length),(List.take_append_drop ..).symm,by simp;omega⟩
    simp at h h2 hlt hB he
    refine LT.next (s':=((Y2.length:Int),(Y1.length:Int),P++Y2++Y1++(X++S))) (fun next=>?_) ?_
    ·simp only[rotate_tm.s1]
     rw[show decide ((X.length:Int)=((Y1++Y2).length:Int))=false from decide_eq_false (by simp;omega),w1,show decide (((Y1++Y2).length:Int)<(X.length:Int))=false from decide_eq_false (by simp;omega)]
     simp only[Bool.not_false,cond_true,cond_false]
     rw[swap_ok P X Y1 Y2 S (by omega) rfl (by
      rw[hm,wr (n:=((P++X).length:Int)+((Y1++Y2).length:Int)) (by simp;omega) (by simp;omega),wr (by simp;omega) (by simp;omega)];simp;omega) rfl (by simp;omega) (by simp),Option.bind_some,wr (by simp;omega) (by simp;omega),hy2]
     congr 2
     simp;omega
    ·have:=ih P Y2 Y1 (X++S) (by omega) (by omega) (by omega) (by rw[hm];simp;omega) (by simp;omega)
     simpa using this
theorem rotate_ok(P X Y S:List Tm){a2 m3 b4:Int}(h1:0<X.length)(h2:0<Y.length)(ha:a2=(P.length:Int))(hm:m3=((P++X).length:Int))(hb:b4=((P++X++Y).length:Int))(hB:(P++X++Y).length<=2 ^ 40){l:List Tm}(hl:l=P++X++Y++S):rotate_tm l a2 m3 b4=some (P++Y++X++S):=by
 subst hl
 simp at hB
 rw[rotate_tm_eq,wr (n:=m3-a2) (by rw[hm,ha];simp;omega) (by rw[hm,ha];simp;omega),wr (n:=b4-m3) (by rw[hb,hm];simp;omega) (by rw[hb,hm];simp;omega),
  show m3-a2=(X.length:Int) by rw[hm,ha];simp;omega,show b4-m3=(Y.length:Int) by rw[hb,hm];simp;omega]
 exact(rot_loop m3 _ P X Y S (Nat.le_refl _) h1 h2 hm (by simp;omega)).eq
end Go.Ab.X

set_option linter.all false
set_option maxRecDepth 100000
set_option maxHeartbeats 2000000
namespace Go.Ab.X
open Go.RowKit Go.Ab
theorem wru{n:Int}(h1:0<=n)(h2:n<=4611686018427387904):IntKind.u64.wrap n=n:=by
 have e1:IntKind.u64.signed=false:=rfl
 have e2:IntKind.u64.bits=64:=rfl
 simp only[IntKind.wrap,e1,e2]
 simp
 omega
theorem mid_ok{a b:Int}{k:Nat}(h1:0<=a)(h2:0<=b)(h3:a+b<=2 ^ 50)(hk:(a+b) / 2=(k:Int)):IntKind.i64.wrap ((IntKind.u64.wrap (IntKind.i64.wrap (a+b))) / 2)=(k:Int):=by
 rw[wr (n:=a+b) (by omega) (by omega),wru (by omega) (by omega),hk,wr (by omega) (by omega)]
theorem srt_app{l m:List Tm}:srt (l++m)↔srt l/\srt m/\∀ x∈l,∀ y∈m,leT x y:=List.pairwise_append
theorem srt_get{l:List Tm}(h:srt l){i j:Nat}{x y:Tm}(hij:i<=j)(hx:l[i]? = some x)(hy:l[j]? = some y):leT x y:=by
 rcases Nat.lt_or_eq_of_le hij with hij|rfl
 ·obtain⟨h1,rfl⟩:=List.getElem?_eq_some_iff.1 hx
  obtain⟨h2,rfl⟩:=List.getElem?_eq_some_iff.1 hy
  exact List.pairwise_iff_getElem.1 h i j h1 h2 hij
 ·rw[hx]at hy;cases hy;exact .refl _
theorem take_drop_get{l:List Tm}{k i:Nat}{x:Tm}(hi:i<k)(hx:(l.take k)[i]? = some x):l[i]? = some x:=by
 rw[List.getElem?_take]at hx;simpa [hi] using hx
theorem carryR(P S:List Tm)(x:Tm)(s5:Int×Int×List Tm):∀(B A:List Tm),s5.1=((P++A++x::B).length:Int)->(P++A++x::B).length<=2 ^ 40 ->
  LT (symMerge_tm.s2 s5) (((P++A).length:Int),P++A++x::(B++S)) (some (P++A++B++x::S)):=by
 intro B
 induction B with
 | nil =>
  intro A h hB
  refine .last fun next=>?_
  simp only[symMerge_tm.s2]
  rw[h,wr (by simp;omega) (by omega),show decide (((P++A).length:Int)<((P++A++[x]).length:Int)-1)=false from decide_eq_false (by simp;omega)]
  simp
 | cons y B ih =>
  intro A h hB
  refine LT.next (s':=(((P++(A++[y])).length:Int),P++(A++[y])++x::(B++S))) (fun next=>?_) ?_
  ·simp only[symMerge_tm.s2]
   rw[h,wr (by simp;omega) (by omega),show decide (((P++A).length:Int)<((P++A++x::y::B).length:Int)-1)=true from decide_eq_true (by simp;omega)]
   simp only[cond_true]
   refine(swLo (P++A) [] (B++S) x y (i:=((P++A).length:Int)) (j:=((P++A).length:Int)+1) rfl (by simp) (by simp) fun l=>next (((P++A).length:Int)+1,l)).trans ?_
   simp[Int.add_assoc]
  ·have:=ih (A++[y]) (by rw[h];simp) (by simp at hB ⊢;omega)
   simpa using this
theorem carryL(P S:List Tm)(x:Tm)(s12:Int×Int×List Tm)(hs:s12.1=(P.length:Int)):∀(n:Nat) (A B:List Tm),A.length=n->(P++A).length<=2 ^ 40 ->
  LT (symMerge_tm.s4 s12) (((P++A).length:Int),P++A++x::(B++S)) (some (P++x::(A++B++S))):=by
 intro n
 induction n with
 | zero =>
  intro A B h hB
  have:A=[]:=List.eq_nil_of_length_eq_zero h
  subst this
  refine .last fun next=>?_
  simp only[symMerge_tm.s4]
  rw[show decide (s12.1<((P++([]:List Tm)).length:Int))=false from decide_eq_false (by rw[hs];simp)]
  simp
 | succ n ih =>
  intro A B h hB
  obtain⟨D0,d,rfl⟩:∃ D0 d,A=D0++[d]:=⟨A.dropLast,A.getLast (by intro e;subst e;cases h),(List.dropLast_concat_getLast _).symm⟩
  have w1:IntKind.i64.wrap (((P++(D0++[d])).length:Int)-1)=((P++D0).length:Int):=by
   simp at hB
   rw[wr (by simp;omega) (by simp;omega)];simp;omega
  refine LT.next (s':=(((P++D0).length:Int),P++D0++x::((d::B)++S))) (fun next=>?_) ?_
  ·simp only[symMerge_tm.s4]
   rw[show decide (s12.1<((P++(D0++[d])).length:Int))=true from decide_eq_true (by rw[hs];simp;omega)]
   simp only[cond_true]
   refine(swHi (P++D0) [] (B++S) d x (i:=((P++(D0++[d])).length:Int)) (by simp;omega) w1 (by simp) fun l=>next (IntKind.i64.wrap (((P++(D0++[d])).length:Int)-1),l)).trans ?_
   rw[w1];simp
  ·have:=ih D0 (d::B) (by simpa using h) (by simp at hB ⊢;omega)
   simpa using this
theorem merge_left(P S:List Tm)(x:Tm)(R:List Tm)(hr:srt R){x2:Int}(ha:x2=(P.length:Int))(hB:(P++x::R).length<=2 ^ 40):∀(n i j:Nat),j-i=n->i<=j->j<=R.length->(∀ k y,k<i->R[k]? = some y->leT y x)->(∀ k y,j<=k->R[k]? = some y->leT x y) ->
  ∃ M,srt M/\M.Perm (x::R)/\LT (symMerge_tm.s1 x2) (((P.length+1+i:Nat):Int),((P.length+1+j:Nat):Int),P++x::(R++S)) (some (P++M++S)):=by
 intro n
 induction n using Nat.strongRecOn with
 | _ n ih =>
 intro i j hn hij hj hlo hhi
 simp at hB
 by_cases hlt:i<j
 ·have hkn:(((P.length+1+i:Nat):Int)+((P.length+1+j:Nat):Int)) / 2=((P.length+1+(i+j) / 2:Nat):Int):=by omega
  have hm:=mid_ok (a:=((P.length+1+i:Nat):Int)) (b:=((P.length+1+j:Nat):Int)) (by omega) (by omega) (by omega) hkn
  have hk:(i+j) / 2<R.length:=by omega
  obtain⟨y,hy⟩:∃ y,R[(i+j) / 2]? = some y:=⟨_,List.getElem?_eq_getElem hk⟩
  have hg:(P++x::(R++S))[P.length+1+(i+j) / 2]? = some y:=by
   rw[List.getElem?_append_right (by omega),show P.length+1+(i+j) / 2-P.length=(i+j) / 2+1 from by omega,List.getElem?_cons_succ,List.getElem?_append_left hk];exact hy
  by_cases hc:cmpTm y x<0
  ·obtain⟨M,h1,h2,h3⟩:=ih (j-((i+j) / 2+1)) (by omega) ((i+j) / 2+1) j rfl (by omega) hj (fun k z hk hz=>(srt_get hr (by omega) hz hy).trans (ltT.le hc)) hhi
   refine⟨M,h1,h2,.next (fun next=>?_) h3⟩
   simp only[symMerge_tm.s1]
   rw[decide_eq_true (show((P.length+1+i:Nat):Int)<((P.length+1+j:Nat):Int) by omega),cond_true,hm,rdL rfl hg,rdL ha (get_mid P (R++S) x),cmp_code,Option.bind_some,decide_eq_true hc,cond_true,wr (by omega) (by omega)]
   congr 1
  ·obtain⟨M,h1,h2,h3⟩:=ih ((i+j) / 2-i) (by omega) i ((i+j) / 2) rfl (by omega) (by omega) hlo (fun k z hk hz=>(leT_of_not hc).trans (srt_get hr hk hy hz))
   refine⟨M,h1,h2,.next (fun next=>?_) h3⟩
   simp only[symMerge_tm.s1]
   rw[decide_eq_true (show((P.length+1+i:Nat):Int)<((P.length+1+j:Nat):Int) by omega),cond_true,hm,rdL rfl hg,rdL ha (get_mid P (R++S) x),cmp_code,Option.bind_some,decide_eq_false hc,cond_false]
 ·have:i=j:=by omega
  subst this
  refine⟨R.take i++x::R.drop i,?_,?_,.last fun next=>?_⟩
  ·have hr':srt (R.take i++R.drop i):=by rw[List.take_append_drop];exact hr
   obtain⟨p1,p2,p3⟩:=srt_app.1 hr'
   have q1:∀ y∈R.take i,leT y x:=by
    intro y hy
    obtain⟨k,hk⟩:=List.getElem?_of_mem hy
    have hki:k<i:=by have:=(List.getElem?_eq_some_iff.1 hk).1;simp at this;omega
    exact hlo k y hki (take_drop_get hki hk)
   have q2:∀ y∈R.drop i,leT x y:=by
    intro y hy
    obtain⟨k,hk⟩:=List.getElem?_of_mem hy
    rw[List.getElem?_drop]at hk
    exact hhi _ y (by omega) hk
   refine srt_app.2 ⟨p1,List.pairwise_cons.2 ⟨q2,p2⟩,fun a ha b hb=>?_⟩
   rcases List.mem_cons.1 hb with rfl|hb
   ·exact q1 a ha
   ·exact p3 a ha b hb
  ·refine List.perm_middle.trans ?_
   rw[List.take_append_drop]
  ·simp only[symMerge_tm.s1]
   rw[decide_eq_false (by omega),cond_false,ha]
   have:=(carryR P (R.drop i++S) x (((P.length+1+i:Nat):Int),((P.length+1+i:Nat):Int),P++x::(R++S)) (R.take i) [] (by simp;omega) (by simp;omega)).eq
   rw[show P++[]++x::(List.take i R++(List.drop i R++S))=P++x::(R++S)from by rw[<-List.append_assoc (List.take i R),List.take_append_drop];simp]at this
   simpa using this
theorem merge_right(P S:List Tm)(x:Tm)(L:List Tm)(hl:srt L){x3:Int}(ha:x3=((P++L).length:Int))(hB:(P++L).length<=2 ^ 40):∀(n i j:Nat),j-i=n->i<=j->j<=L.length->(∀ k y,k<i->L[k]? = some y->leT y x)->(∀ k y,j<=k->L[k]? = some y->leT x y) ->
  ∃ M,srt M/\M.Perm (L++[x])/\LT (symMerge_tm.s3 x3) (((P.length+i:Nat):Int),((P.length+j:Nat):Int),P++L++x::S) (some (P++M++S)):=by
 intro n
 induction n using Nat.strongRecOn with
 | _ n ih =>
 intro i j hn hij hj hlo hhi
 simp at hB
 by_cases hlt:i<j
 ·have hkn:(((P.length+i:Nat):Int)+((P.length+j:Nat):Int)) / 2=((P.length+(i+j) / 2:Nat):Int):=by omega
  have hm:=mid_ok (a:=((P.length+i:Nat):Int)) (b:=((P.length+j:Nat):Int)) (by omega) (by omega) (by omega) hkn
  have hk:(i+j) / 2<L.length:=by omega
  obtain⟨y,hy⟩:∃ y,L[(i+j) / 2]? = some y:=⟨_,List.getElem?_eq_getElem hk⟩
  have hg:(P++L++x::S)[P.length+(i+j) / 2]? = some y:=by
   rw[List.append_assoc,List.getElem?_append_right (by omega),show P.length+(i+j) / 2-P.length=(i+j) / 2 from by omega,List.getElem?_append_left hk];exact hy
  by_cases hc:cmpTm x y<0
  ·obtain⟨M,h1,h2,h3⟩:=ih ((i+j) / 2-i) (by omega) i ((i+j) / 2) rfl (by omega) (by omega) hlo (fun k z hk hz=>(ltT.le hc).trans (srt_get hl hk hy hz))
   refine⟨M,h1,h2,.next (fun next=>?_) h3⟩
   simp only[symMerge_tm.s3]
   rw[decide_eq_true (show((P.length+i:Nat):Int)<((P.length+j:Nat):Int) by omega),cond_true,rdL ha (get_mid (P++L) S x),hm,rdL rfl hg,cmp_code,Option.bind_some,decide_eq_true hc,Bool.not_true,cond_false]
  ·obtain⟨M,h1,h2,h3⟩:=ih (j-((i+j) / 2+1)) (by omega) ((i+j) / 2+1) j rfl (by omega) hj (fun k z hk hz=>(srt_get hl (by omega) hz hy).trans (leT_of_not hc)) hhi
   refine⟨M,h1,h2,.next (fun next=>?_) h3⟩
   simp only[symMerge_tm.s3]
   rw[decide_eq_true (show((P.length+i:Nat):Int)<((P.length+j:Nat):Int) by omega),cond_true,rdL ha (get_mid (P++L) S x),hm,rdL rfl hg,cmp_code,Option.bind_some,decide_eq_false hc,Bool.not_false,cond_true,wr (by omega) (by omega)]
   congr 1
 ·have:i=j:=by omega
  subst this
  refine⟨L.take i++x::L.drop i,?_,?_,.last fun next=>?_⟩
  ·have hr':srt (L.take i++L.drop i):=by rw[List.take_append_drop];exact hl
   obtain⟨p1,p2,p3⟩:=srt_app.1 hr'
   have q1:∀ y∈L.take i,leT y x:=by
    intro y hy
    obtain⟨k,hk⟩:=List.getElem?_of_mem hy
    have hki:k<i:=by have:=(List.getElem?_eq_some_iff.1 hk).1;simp at this;omega
    exact hlo k y hki (take_drop_get hki hk)
   have q2:∀ y∈L.drop i,leT x y:=by
    intro y hy
    obtain⟨k,hk⟩:=List.getElem?_of_mem hy
    rw[List.getElem?_drop]at hk
    exact hhi _ y (by omega) hk
   refine srt_app.2 ⟨p1,List.pairwise_cons.2 ⟨q2,p2⟩,fun a ha b hb=>?_⟩
   rcases List.mem_cons.1 hb with rfl|hb
   ·exact q1 a ha
   ·exact p3 a ha b hb
  ·refine List.perm_middle.trans ?_
   rw[List.take_append_drop]
   exact(List.perm_append_singleton x L).symm
  ·simp only[symMerge_tm.s3]
   rw[decide_eq_false (by omega),cond_false,ha]
   have:=(carryL (P++L.take i) S x (((P.length+i:Nat):Int),((P.length+i:Nat):Int),P++L++x::S) (by simp;omega) (L.drop i).length (L.drop i) [] rfl (by simp;omega)).eq
   rw[show P++List.take i L++List.drop i L=P++L from by rw[List.append_assoc,List.take_append_drop]]at this
   simpa using this
theorem le_all{L R:List Tm}(hL:srt L)(hR:srt R)(h:∀ x y,L[L.length-1]? = some x->R[0]? = some y->leT x y):∀ x∈L,∀ y∈R,leT x y:=by
 intro x hx y hy
 obtain⟨i,hi⟩:=List.getElem?_of_mem hx
 obtain⟨j,hj⟩:=List.getElem?_of_mem hy
 have h1:=(List.getElem?_eq_some_iff.1 hi).1
 have h2:=(List.getElem?_eq_some_iff.1 hj).1
 obtain⟨a,ha⟩:∃ a,L[L.length-1]? = some a:=⟨_,List.getElem?_eq_getElem (show L.length-1<L.length by omega)⟩
 obtain⟨b,hb⟩:∃ b,R[0]? = some b:=⟨_,List.getElem?_eq_getElem (show 0<R.length by omega)⟩
 exact(srt_get hL (show i<=L.length-1 by omega) hi ha).trans ((h a b ha hb).trans (srt_get hR (Nat.zero_le j) hb hj))
def Mrg(n:Nat):Prop:=∀(P L R S:List Tm) (a m b:Int),L.length+R.length<=n->0<L.length->0<R.length->srt L->srt R->a=(P.length:Int)->m=((P++L).length:Int)->b=((P++L++R).length:Int)->(P++L++R).length<=2 ^ 40 ->
 ∃ M,srt M/\M.Perm (L++R)/\symMerge_tm (P++L++R++S) a m b=some (P++M++S)
theorem merge_halves{n:Nat}(ih:∀ k,k<n->Mrg k)(P L1 R1 L2 R2 S:List Tm)(a mid b:Int)(s20:Int×Int×List Tm)(x3:Int)
  (hn:L1.length+R1.length+(L2.length+R2.length)<=n) (h1:0<L1.length+R1.length) (h2:0<L2.length+R2.length)
  (s1:srt L1) (s2:srt R1) (s3:srt L2) (s4:srt R2) (hle:∀ x∈L1++R1,∀ y∈L2++R2,leT x y)
  (ha:a=(P.length:Int)) (hmid:IntKind.i64.wrap ((IntKind.u64.wrap (IntKind.i64.wrap (a+b))) / 2)=((P++L1++R1).length:Int)) (hb:b=((P++L1++R1++L2++R2).length:Int))
  (hs:s20.1=((P++L1).length:Int)) (he:IntKind.i64.wrap ((IntKind.i64.wrap ((IntKind.i64.wrap ((IntKind.u64.wrap (IntKind.i64.wrap (a+b))) / 2))+x3))-s20.1)=((P++L1++R1++L2).length:Int)) (hB:(P++L1++R1++L2++R2).length<=2 ^ 40) :
  ∃ M,srt M/\M.Perm (L1++R1++(L2++R2))/\symMerge_tm.j7 a b x3 s20 (P++L1++R1++(L2++R2++S))=some (P++M++S):=by
 simp at hB
 have first:∃ M1,srt M1/\M1.Perm (L1++R1)/\∀ kk8:List Tm->Option (List Tm),(jn (symMerge_tm.j10 a s20 b kk8) (fun kk10=>(bif(decide (a<s20.1))then(kk10 ((decide (s20.1<(IntKind.i64.wrap ((IntKind.u64.wrap (IntKind.i64.wrap (a+b))) / 2)))),(P++L1++R1++(L2++R2++S))))else(kk10 (false,(P++L1++R1++(L2++R2++S)))))))=kk8 (P++M1++(L2++R2++S)):=by
  by_cases c1:0<L1.length
  ·by_cases c2:0<R1.length
   ·obtain⟨M,m1,m2,m3⟩:=ih (L1.length+R1.length) (by omega) P L1 R1 (L2++R2++S) a s20.1 ((P++L1++R1).length:Int) (Nat.le_refl _) c1 c2 s1 s2 ha hs rfl (by simp;omega)
    refine⟨M,m1,m2,fun kk8=>?_⟩
    rw[hmid,decide_eq_true (show a<s20.1 by rw[ha,hs];simp;omega),decide_eq_true (show s20.1<((P++L1++R1).length:Int) by rw[hs];simp;omega)]
    simp only[jn,cond_true,symMerge_tm.j10]
    rw[hmid,m3];rfl
   ·have:R1=[]:=List.eq_nil_of_length_eq_zero (by omega)
    subst this
    refine⟨L1,s1,by simp,fun kk8=>?_⟩
    rw[hmid,decide_eq_true (show a<s20.1 by rw[ha,hs];simp;omega),show decide (s20.1<((P++L1++([]:List Tm)).length:Int))=false from decide_eq_false (by rw[hs];simp)]
    simp only[jn,cond_true,cond_false,symMerge_tm.j10]
    simp
  ·have:L1=[]:=List.eq_nil_of_length_eq_zero (by omega)
   subst this
   refine⟨R1,s2,by simp,fun kk8=>?_⟩
   rw[decide_eq_false (show ¬ a<s20.1 by rw[ha,hs];simp)]
   simp only[jn,cond_false,symMerge_tm.j10]
   simp
 obtain⟨M1,f1,f2,f3⟩:=first
 have hl1:M1.length=L1.length+R1.length:=by rw[f2.length_eq];simp
 have second:∃ M2,srt M2/\M2.Perm (L2++R2)/\symMerge_tm.j8 a b x3 s20 (P++M1++(L2++R2++S))=some (P++M1++M2++S):=by
  simp only[symMerge_tm.j8,jn]
  rw[hmid,show IntKind.i64.wrap (IntKind.i64.wrap (((P++L1++R1).length:Int)+x3)-s20.1)=((P++L1++R1++L2).length:Int)from by rw[hmid]at he;exact he]
  by_cases c1:0<L2.length
  ·rw[decide_eq_true (show((P++L1++R1).length:Int)<((P++L1++R1++L2).length:Int) by simp;omega)]
   by_cases c2:0<R2.length
   ·obtain⟨M,m1,m2,m3⟩:=ih (L2.length+R2.length) (by omega) (P++M1) L2 R2 S ((P++L1++R1).length:Int) ((P++L1++R1++L2).length:Int) b (Nat.le_refl _) c1 c2 s3 s4 (by simp;omega) (by simp;omega) (by rw[hb];simp;omega) (by simp;omega)
    refine⟨M,m1,m2,?_⟩
    rw[decide_eq_true (show((P++L1++R1++L2).length:Int)<b by rw[hb];simp;omega)]
    simp only[cond_true,symMerge_tm.j9]
    rw[he,hmid,show P++M1++(L2++R2++S)=P++M1++L2++R2++S from by simp,m3];rfl
   ·have:R2=[]:=List.eq_nil_of_length_eq_zero (by omega)
    subst this
    refine⟨L2,s3,by simp,?_⟩
    rw[decide_eq_false (show ¬ ((P++L1++R1++L2).length:Int)<b by rw[hb];simp)]
    simp only[cond_true,symMerge_tm.j9,cond_false]
    simp
  ·have:L2=[]:=List.eq_nil_of_length_eq_zero (by omega)
   subst this
   refine⟨R2,s4,by simp,?_⟩
   rw[show decide (((P++L1++R1).length:Int)<((P++L1++R1++([]:List Tm)).length:Int))=false from decide_eq_false (by simp)]
   simp only[cond_false,symMerge_tm.j9]
   simp
 obtain⟨M2,g1,g2,g3⟩:=second
 refine⟨M1++M2,srt_app.2 ⟨f1,g1,fun x hx y hy=>hle x (f2.mem_iff.1 hx) y (g2.mem_iff.1 hy)⟩,f2.append g2,?_⟩
 simp only[symMerge_tm.j7]
 refine(f3 _).trans ?_
 rw[g3];simp
theorem take_last{l:List Tm}{i:Nat}{x:Tm}(hi:i<=l.length)(h:(l.take i)[(l.take i).length-1]? = some x):0<i/\l[i-1]? = some x:=by
 have h1:=(List.getElem?_eq_some_iff.1 h).1
 have hl:(l.take i).length=i:=by simp;omega
 rw[hl]at h h1
 exact⟨by omega,take_drop_get (by omega) h⟩
theorem drop_first{l:List Tm}{i:Nat}{x:Tm}(h:(l.drop i)[0]? = some x):l[i]? = some x:=by
 rw[List.getElem?_drop]at h;simpa using h
theorem merge_search{n:Nat}(ih:∀ k,k<n->Mrg k)(P L R S:List Tm)(a m b:Int)(hn:L.length+R.length<=n)(hL:0<L.length)(hR:0<R.length)(sL:srt L)(sR:srt R)
  (ha:a=(P.length:Int)) (hm:m=((P++L).length:Int)) (hb:b=((P++L++R).length:Int)) (hB:(P++L++R).length<=2 ^ 40) (half:Nat) (hh:half=(L.length+R.length) / 2) :
  ∀(d i j:Nat),j-i=d->i<=j->j<=L.length->j<=half->half<=R.length+i ->
   (∀ x y,0<i->L[i-1]? = some x->R[half-i]? = some y->leT x y)->(∀ x y,j<half->R[half-j-1]? = some y->L[j]? = some x->leT y x) ->
   ∃ M,srt M/\M.Perm (L++R)/\LT (symMerge_tm.s6 a b m) (((P.length+i:Nat):Int),((P.length+j:Nat):Int),P++L++R++S) (some (P++M++S)):=by
 simp at hB
 have hmid:IntKind.i64.wrap ((IntKind.u64.wrap (IntKind.i64.wrap (a+b))) / 2)=((P.length+half:Nat):Int):=
  mid_ok (by omega) (by omega) (by rw[ha,hb];simp;omega) (by rw[ha,hb,hh];simp;omega)
 have hp:IntKind.i64.wrap (((P.length+half:Nat):Int)+m)=((P.length+half+(P.length+L.length):Nat):Int):=by
  rw[hm,wr (by simp<;>omega) (by simp<;>omega)];simp<;>omega
 intro d
 induction d using Nat.strongRecOn with
 | _ d ihd =>
 intro i j hd hij hjL hjh hiR hlo hhi
 by_cases hlt:i<j
 ·have hkn:(((P.length+i:Nat):Int)+((P.length+j:Nat):Int)) / 2=((P.length+(i+j) / 2:Nat):Int):=by omega
  have hc':=mid_ok (a:=((P.length+i:Nat):Int)) (b:=((P.length+j:Nat):Int)) (by omega) (by omega) (by omega) hkn
  have hcL:(i+j) / 2<L.length:=by omega
  have hcR:half-(i+j) / 2-1<R.length:=by omega
  obtain⟨x,hx⟩:∃ x,L[(i+j) / 2]? = some x:=⟨_,List.getElem?_eq_getElem hcL⟩
  obtain⟨y,hy⟩:∃ y,R[half-(i+j) / 2-1]? = some y:=⟨_,List.getElem?_eq_getElem hcR⟩
  have hgx:(P++L++R++S)[P.length+(i+j) / 2]? = some x:=by
   rw[List.append_assoc,List.append_assoc,List.getElem?_append_right (by omega),show P.length+(i+j) / 2-P.length=(i+j) / 2 from by omega,List.getElem?_append_left hcL];exact hx
  have hgy:(P++L++R++S)[P.length+L.length+(half-(i+j) / 2-1)]? = some y:=by
   rw[List.append_assoc,List.getElem?_append_right (by simp<;>omega),show P.length+L.length+(half-(i+j) / 2-1)-(P++L).length=half-(i+j) / 2-1 from by simp<;>omega,List.getElem?_append_left hcR];exact hy
  have hidx:IntKind.i64.wrap (IntKind.i64.wrap (((P.length+half+(P.length+L.length):Nat):Int)-1)-((P.length+(i+j) / 2:Nat):Int))=((P.length+L.length+(half-(i+j) / 2-1):Nat):Int):=by
   rw[wr (n:=((P.length+half+(P.length+L.length):Nat):Int)-1) (by omega) (by omega),wr (by omega) (by omega)];omega
  by_cases hc:cmpTm y x<0
  ·obtain⟨M,h1,h2,h3⟩:=ihd ((i+j) / 2-i) (by omega) i ((i+j) / 2) rfl (by omega) (by omega) (by omega) hiR hlo (fun x' y' _ hy' hx'=>by
    rw[hy]at hy';rw[hx]at hx';cases hy';cases hx';exact ltT.le hc)
   refine⟨M,h1,h2,.next (fun next=>?_) h3⟩
   simp only[symMerge_tm.s6]
   rw[decide_eq_true (show((P.length+i:Nat):Int)<((P.length+j:Nat):Int) by omega),cond_true,hmid,hp,hc',rdL hidx hgy,rdL rfl hgx,cmp_code,Option.bind_some,decide_eq_true hc,Bool.not_true,cond_false]
  ·obtain⟨M,h1,h2,h3⟩:=ihd (j-((i+j) / 2+1)) (by omega) ((i+j) / 2+1) j rfl (by omega) hjL hjh (by omega) (fun x' y' _ hx' hy'=>by
    rw[show(i+j) / 2+1-1=(i+j) / 2 from rfl,hx]at hx'
    rw[show half-((i+j) / 2+1)=half-(i+j) / 2-1 from by omega,hy]at hy'
    cases hy';cases hx';exact leT_of_not hc) hhi
   refine⟨M,h1,h2,.next (fun next=>?_) h3⟩
   simp only[symMerge_tm.s6]
   rw[decide_eq_true (show((P.length+i:Nat):Int)<((P.length+j:Nat):Int) by omega),cond_true,hmid,hp,hc',rdL hidx hgy,rdL rfl hgx,cmp_code,Option.bind_some,decide_eq_false hc,Bool.not_false,cond_true,wr (n:=((P.length+(i+j) / 2:Nat):Int)+1) (by omega) (by omega)]
   congr 1
 ·have:i=j:=by omega
  subst this
  have eL:L.take i++L.drop i=L:=List.take_append_drop ..
  have eR:R.take (half-i)++R.drop (half-i)=R:=List.take_append_drop ..
  have nL1:(L.take i).length=i:=by simp;omega
  have nL2:(L.drop i).length=L.length-i:=by simp
  have nR1:(R.take (half-i)).length=half-i:=by simp;omega
  have nR2:(R.drop (half-i)).length=R.length-(half-i):=by simp
  have sL':=sL
  have sR':=sR
  rw[<-eL]at sL'
  rw[<-eR]at sR'
  obtain⟨p1,p2,p3⟩:=srt_app.1 sL'
  obtain⟨q1,q2,q3⟩:=srt_app.1 sR'
  have r1:=le_all p1 q2 (fun x y hx hy=>by
   obtain⟨h0,hx'⟩:=take_last hjL hx
   exact hlo x y h0 hx' (drop_first hy))
  have r2:=le_all q1 p2 (fun y x hy hx=>by
   obtain⟨h0,hy'⟩:=take_last (by omega) hy
   exact hhi x y (by omega) hy' (drop_first hx))
  have hend:IntKind.i64.wrap (IntKind.i64.wrap (((P.length+half:Nat):Int)+m)-((P.length+i:Nat):Int))=((P.length+L.length+(half-i):Nat):Int):=by
   rw[hp,wr (by omega) (by omega)];omega
  obtain⟨M,h1,h2,h3⟩:=merge_halves ih P (L.take i) (R.take (half-i)) (L.drop i) (R.drop (half-i)) S a 0 b (((P.length+i:Nat):Int),((P.length+i:Nat):Int),P++L++R++S) m
   (by omega) (by omega) (by omega) p1 q1 p2 q2 (fun x hx y hy=>by
    rcases List.mem_append.1 hx with hx|hx
    ·rcases List.mem_append.1 hy with hy|hy
     ·exact p3 x hx y hy
     ·exact r1 x hx y hy
    ·rcases List.mem_append.1 hy with hy|hy
     ·exact r2 x hx y hy
     ·exact q3 x hx y hy) ha (by rw[hmid];simp only[List.length_append,nL1,nR1];omega) (by rw[hb];simp only[List.length_append,nL1,nL2,nR1,nR2];omega) (by simp only[List.length_append,nL1]) (by
     rw[hmid,hend];simp only[List.length_append,nL1,nL2,nR1];omega) (by simp only[List.length_append,nL1,nL2,nR1,nR2];omega)
  refine⟨M,h1,h2.trans ?_,.last fun next=>?_⟩
  ·have e3:List.Perm (L.take i++R.take (half-i)++(L.drop i++R.drop (half-i))) (L.take i++L.drop i++(R.take (half-i)++R.drop (half-i))):=by
    simp only[List.append_assoc]
    refine List.Perm.append_left _ ?_
    rw[<-List.append_assoc,<-List.append_assoc]
    exact List.Perm.append_right _ List.perm_append_comm
   rw[eL,eR]at e3
   exact e3
  ·simp only[symMerge_tm.s6]
   rw[decide_eq_false (by omega),cond_false,hmid,hend]
   have hrot:∀ kk7:List Tm->Option (List Tm),(jn (symMerge_tm.j11 (((P.length+i:Nat):Int),((P.length+i:Nat):Int),P++L++R++S) m a b kk7) (fun kk11=>(bif(decide (((P.length+i:Nat):Int)<m))then(kk11 ((decide (m<((P.length+L.length+(half-i):Nat):Int))),P++L++R++S))else(kk11 (false,P++L++R++S)))))=kk7 (P++L.take i++R.take (half-i)++(L.drop i++R.drop (half-i)++S)):=by
    intro kk7
    simp only[jn]
    by_cases c1:i<L.length
    ·rw[decide_eq_true (show((P.length+i:Nat):Int)<m by rw[hm];simp;omega)]
     by_cases c2:i<half
     ·rw[decide_eq_true (show m<((P.length+L.length+(half-i):Nat):Int) by rw[hm];simp;omega)]
      simp only[cond_true,symMerge_tm.j11]
      rw[hmid,hend,rotate_ok (P++L.take i) (L.drop i) (R.take (half-i)) (R.drop (half-i)++S) (by omega) (by omega) (by simp only[List.length_append,nL1]) (by rw[hm];simp only[List.length_append,nL1,nL2];omega) (by simp only[List.length_append,nL1,nL2,nR1];omega) (by simp only[List.length_append,nL1,nL2,nR1];omega) (by
       conv=>lhs;rw[<-eL,<-eR]
       simp only[List.append_assoc])]
      simp
     ·have hz:half-i=0:=by omega
      rw[decide_eq_false (show ¬ m<((P.length+L.length+(half-i):Nat):Int) by rw[hm];simp;omega)]
      simp only[cond_true,cond_false,symMerge_tm.j11]
      rw[hz]
      congr 1
      simp only[List.take_zero,List.drop_zero,List.append_nil,List.append_assoc]
      rw[<-List.append_assoc (L.take i),eL]
    ·rw[decide_eq_false (show ¬ ((P.length+i:Nat):Int)<m by rw[hm];simp;omega)]
     have hz:L.drop i=[]:=List.drop_eq_nil_of_le (by omega)
     have hz2:L.take i=L:=List.take_of_length_le (by omega)
     simp only[cond_false,symMerge_tm.j11]
     rw[hz,hz2]
     congr 1
     simp only[List.nil_append,List.append_assoc]
     rw[<-List.append_assoc (R.take _),eR]
   simp only[jn]at hrot ⊢
   refine(hrot _).trans ?_
   exact h3
theorem symMerge_ok:∀ n,Mrg n:=by
 intro n
 induction n using Nat.strongRecOn with
 | _ n ih =>
 intro P L R S a m b hn hL hR sL sR ha hm hb hB
 have hB':=hB
 simp at hB'
 rw[symMerge_tm_eq]
 have w1:IntKind.i64.wrap (m-a)=(L.length:Int):=by rw[ha,hm,wr (by simp;omega) (by simp;omega)];simp;omega
 have w2:IntKind.i64.wrap (b-m)=(R.length:Int):=by rw[hb,hm,wr (by simp;omega) (by simp;omega)];simp;omega
 rw[w1,w2]
 by_cases c1:L.length=1
 ·obtain⟨x,rfl⟩:=List.length_eq_one_iff.1 c1
  obtain⟨M,h1,h2,h3⟩:=merge_left P S x R sR ha (by simp;omega) R.length 0 R.length rfl (Nat.zero_le _) (Nat.le_refl _) (fun k y hk=>by omega) (fun k y hk hy=>by
   have:=(List.getElem?_eq_some_iff.1 hy).1;omega)
  refine⟨M,h1,by simpa using h2,?_⟩
  rw[decide_eq_true (show(([x]:List Tm).length:Int)=1 from rfl),cond_true]
  have e1:m=((P.length+1+0:Nat):Int):=by rw[hm];simp
  have e2:b=((P.length+1+R.length:Nat):Int):=by rw[hb];simp;omega
  rw[e1,e2,show P++[x]++R++S=P++x::(R++S)from by simp]
  exact h3.eq
 ·rw[decide_eq_false (show ¬ (L.length:Int)=1 by omega),cond_false]
  by_cases c2:R.length=1
  ·obtain⟨x,rfl⟩:=List.length_eq_one_iff.1 c2
   obtain⟨M,h1,h2,h3⟩:=merge_right P S x L sL hm (by simp;omega) L.length 0 L.length rfl (Nat.zero_le _) (Nat.le_refl _) (fun k y hk=>by omega) (fun k y hk hy=>by
    have:=(List.getElem?_eq_some_iff.1 hy).1;omega)
   refine⟨M,h1,h2,?_⟩
   rw[decide_eq_true (show(([x]:List Tm).length:Int)=1 from rfl),cond_true]
   have e1:a=((P.length+0:Nat):Int):=by rw[ha];simp
   have e2:m=((P.length+L.length:Nat):Int):=by rw[hm];simp
   have:=h3.eq
   rw[e1]
   rw[show P++L++[x]++S=P++L++x::S from by simp]
   rw[<-e2]at this
   exact this
  ·rw[decide_eq_false (show ¬ (R.length:Int)=1 by omega),cond_false]
   have hmid:IntKind.i64.wrap ((IntKind.u64.wrap (IntKind.i64.wrap (a+b))) / 2)=((P.length+(L.length+R.length) / 2:Nat):Int):=
    mid_ok (by omega) (by omega) (by rw[ha,hb];simp;omega) (by rw[ha,hb];simp;omega)
   have hp:IntKind.i64.wrap (((P.length+(L.length+R.length) / 2:Nat):Int)+m)=((P.length+(L.length+R.length) / 2+(P.length+L.length):Nat):Int):=by
    rw[hm,wr (by simp;omega) (by simp;omega)];simp
   simp only[jn]
   rw[hmid,hp]
   by_cases c3:(L.length+R.length) / 2<L.length
   ·obtain⟨M,h1,h2,h3⟩:=merge_search ih P L R S a m b hn hL hR sL sR ha hm hb hB _ rfl _ ((L.length+R.length) / 2-R.length) ((L.length+R.length) / 2) rfl (by omega) (by omega) (Nat.le_refl _) (by omega) (fun x y _ _ hy=>by
     have:=(List.getElem?_eq_some_iff.1 hy).1;omega) (fun x y h=>by omega)
    refine⟨M,h1,h2,?_⟩
    rw[decide_eq_true (show((P.length+(L.length+R.length) / 2:Nat):Int)<m by rw[hm];simp;omega),cond_true,wr (by omega) (by rw[hb];simp;omega)]
    simp only[symMerge_tm.j5]
    rw[show((P.length+(L.length+R.length) / 2+(P.length+L.length):Nat):Int)-b=((P.length+((L.length+R.length) / 2-R.length):Nat):Int)from by rw[hb];simp;omega]
    exact h3.eq
   ·obtain⟨M,h1,h2,h3⟩:=merge_search ih P L R S a m b hn hL hR sL sR ha hm hb hB _ rfl _ 0 L.length rfl (by omega) (Nat.le_refl _) (by omega) (by omega) (fun x y h=>by omega) (fun x y _ _ hx=>by
     have:=(List.getElem?_eq_some_iff.1 hx).1;omega)
    refine⟨M,h1,h2,?_⟩
    rw[decide_eq_false (show ¬ ((P.length+(L.length+R.length) / 2:Nat):Int)<m by rw[hm];simp;omega),cond_false]
    simp only[symMerge_tm.j5]
    have e1:a=((P.length+0:Nat):Int):=by rw[ha];simp
    have e2:m=((P.length+L.length:Nat):Int):=by rw[hm];simp
    have:=h3.eq
    rw[<-e1,<-e2]at this
    exact this
end Go.Ab.X
