/- A part of the proof: BE. -/
import Derived.Test.YtgkiahgcgjigkaaDoorBC
import Derived.Lib.AtoiAllCases
set_option linter.all false
set_option linter.all false
set_option maxRecDepth 100000
set_option maxHeartbeats 1000000
namespace Go.Ab.X
open Go.RowKit Go.Ab Go.Proofs
section
variable {S R:Type} {step:S->(S->Option R)->Option R}
theorem LT.exP{α T:Type}(l:List α)(mk:Nat->T->S)(P:Nat->T->Prop)(Q:R->Prop)
  (h1:∀ i a t,l[i]? = some a->P i t->(∃ t',(∀ next,step (mk i t) next=next (mk (i+1) t'))/\P (i+1) t')\/(∃ r,Q r/\∀ next,step (mk i t) next=some r))
  (h2:∀ t,P l.length t->∃ r,Q r/\∀ next,step (mk l.length t) next=some r) {i0:Nat} (hi0:i0<=l.length) {t0:T} (h0:P i0 t0):∃ r,Q r/\loopN step (mk i0 t0)=some r:=by
 suffices ∃ r,Q r/\LT step (mk i0 t0) (some r)from this.imp fun _ h=>⟨h.1,h.2.eq⟩
 have key:∀(k i:Nat) (t:T),i+k=l.length->P i t->∃ r,Q r/\LT step (mk i t) (some r):=by
  intro k
  induction k with
  | zero =>
   intro i t hi hp
   have hh:i=l.length:=by omega
   subst hh
   obtain⟨r,hq,h⟩:=h2 t hp
   exact⟨r,hq,.last h⟩
  | succ k ih =>
   intro i t hi hp
   obtain⟨a,ha⟩:∃ a,l[i]? = some a:=⟨_,List.getElem?_eq_getElem (show i<l.length by omega)⟩
   rcases h1 i a t ha hp with⟨t',e,hp'⟩|⟨r,hq,e⟩
   ·obtain⟨r,hq,h⟩:=ih (i+1) t' (by omega) hp'
    exact⟨r,hq,.next e h⟩
   ·exact⟨r,hq,.last e⟩
 exact key (l.length-i0) i0 t0 (by omega) h0
end
def In64(v:Int):Prop:=-9223372036854775808<=v/\v<=9223372036854775807
theorem wrap_64(n:Int):In64 (IntKind.i64.wrap n):=by
 unfold In64
 simp only[IntKind.wrap,IntKind.signed,IntKind.bits]
 simp;omega
theorem pu_app:∀(l:List UInt8) (acc u:Nat) (r:List UInt8),Lib.parseUint10 acc l=.ok u->Lib.parseUint10 acc (l++r)=Lib.parseUint10 u r
 | [],acc,u,r,h=>by simp only[Lib.parseUint10]at h;injection h with h;rw[h];rfl
 | c::l,acc,u,r,h=>by
  simp only[Lib.parseUint10,List.cons_append]at h ⊢
  split at h
  ·rename_i h1
   split at h
   ·cases h
   ·rename_i h2
    split at h
    ·cases h
    ·rename_i h3
     rw[if_pos h1,if_neg h2,if_neg h3]
     exact pu_app l _ u r h
  ·cases h
theorem ofNat_nat{n:Nat}(h:n<256):(UInt8.ofNat n).toNat=n:=by simp;omega
theorem pu_dec:∀(k u:Nat),u<k->u<18446744073709551616->Lib.parseUint10 0 (Lib.decDigits u)=.ok u:=by
 intro k
 induction k with
 | zero=>intro u h;omega
 | succ k ih =>
  intro u hk hu
  by_cases h:u<10
  ·rw[Lib.decDigits_one h]
   simp only[Lib.parseUint10,ofNat_nat (show 48+u<256 by omega)]
   rw[if_pos (by omega),if_neg (by omega),if_neg (by omega)]
   congr 1;omega
  ·rw[show Lib.decDigits u=Lib.decDigits (u / 10)++[UInt8.ofNat (48+u % 10)] by rw[Lib.decDigits];rw[dif_neg h]]
   rw[pu_app _ _ _ _ (ih (u / 10) (by omega) (by omega))]
   simp only[Lib.parseUint10,ofNat_nat (show 48+u % 10<256 by omega)]
   rw[if_pos (by omega),if_neg (by omega),if_neg (by omega)]
   congr 1;omega
theorem nDigits_low:∀(k u:Nat),u<k->0<u->10 ^ (Lib.nDigits u-1)<=u:=by
 intro k
 induction k with
 | zero=>intro u h;omega
 | succ k ih =>
  intro u hk hu
  by_cases h:u<10
  ·rw[Lib.nDigits_small h];exact hu
  ·rw[Lib.nDigits_big h]
   have:=ih (u / 10) (by omega) (by omega)
   have hp:=Lib.nDigits_pos (u / 10)
   rw[show Lib.nDigits (u / 10)+1-1=(Lib.nDigits (u / 10)-1)+1 by omega,Nat.pow_succ]
   omega
theorem nDigits_19{u:Nat}(h:u<=9223372036854775808):Lib.nDigits u<=19:=by
 rcases Nat.eq_zero_or_pos u with rfl|hu
 ·rw[Lib.nDigits_small (by omega)];omega
 ·by_cases hn:Lib.nDigits u<=19
  ·exact hn
  ·have h1:=nDigits_low (u+1) u (by omega) hu
   have h2:10 ^ 19<=10 ^ (Lib.nDigits u-1):=Nat.pow_le_pow_right (by decide) (by omega)
   have h3:(10:Nat) ^ 19=10000000000000000000:=by decide
   omega
theorem dec_ne(u:Nat):Lib.decDigits u≠[]:=by
 intro h
 have:=Lib.decDigits_length u
 rw[h]at this
 have:=Lib.nDigits_pos u
 simp at *;omega
theorem dec_at{u j:Nat}(h:j<Lib.nDigits u):(Lib.decDigits u)[j]? = some (UInt8.ofNat (48+u / 10 ^ (Lib.nDigits u-1-j) % 10)):=by
 rw[Lib.decDigits_eq,List.getElem?_map,List.getElem?_range h]
 rfl
theorem dec_cons(u:Nat):∃ c r,Lib.decDigits u=c::r/\48<=c.toNat:=by
 cases h:Lib.decDigits u with
 | nil=>exact absurd h (dec_ne u)
 | cons c r =>
  refine⟨c,r,rfl,?_⟩
  have:=dec_at (u:=u) (j:=0) (Lib.nDigits_pos u)
  rw[h]at this
  simp only[List.getElem?_cons_zero,Option.some.injEq]at this
  rw[this,ofNat_nat (by omega)];omega
theorem atoi_itoa{v:Int}(h:In64 v):atoiB (itoaB v)=v:=by
 obtain⟨h0,h1⟩:=h
 unfold atoiB itoaB
 simp only
 by_cases hn:v<0
 ·have e:Lib.itoa v=45::Lib.decDigits v.natAbs:=by unfold Lib.itoa;rw[if_pos hn]
  rw[e,Lib.atoiAll_minus,Lib.parseMag,if_neg (dec_ne _),pu_dec (v.natAbs+1) _ (by omega) (by omega),Lib.signed,if_neg (by omega)]
  simp only;omega
 ·have e:Lib.itoa v=Lib.decDigits v.toNat:=by unfold Lib.itoa;rw[if_neg hn]
  obtain⟨c,r,ec,hc⟩:=dec_cons v.toNat
  have key:=pu_dec (v.toNat+1) v.toNat (by omega) (by omega)
  rw[e]
  rw[ec]at key ⊢
  rw[Lib.atoiAll_plain _ _ (by omega) (by omega),Lib.parseMag,if_neg (by simp),key,Lib.signless,if_neg (by omega)]
  simp only;omega
theorem atoi_in(s:ByteArray):In64 (atoiB s):=by
 unfold atoiB
 cases h:Lib.atoiAll s.data.toList with
 | ok v=>exact atoi_rng h
 | range=>exact Lib.atoiSat_bounds _
 | _=>exact⟨(by decide:(-9223372036854775808:Int)<=0),(by decide:(0:Int)<=9223372036854775807)⟩
theorem dig_i{c:UInt8}:IntKind.i64.wrap (IntKind.i64.wrap (c.toNat:Int)-48)=(c.toNat:Int)-48:=by
 have:=c.toNat_lt
 rw[wr64 (n:=(c.toNat:Int)) (by omega) (by omega),wr64 (by omega) (by omega)]
theorem ix0{s:ByteArray}{c:UInt8}{r:List UInt8}(h:s.data.toList=c::r):ixS s 0=some (c.toNat:Int):=ixS_at (i:=0) (by rw[h];rfl)
def negB(s:ByteArray):Bool:=decide (s.data.toList.head? = some 45)
theorem num_head(s:ByteArray):ref32_number s=ref32_number.j1 s (negB s):=by
 rw[ref32_number_eq]
 simp only[jn]
 cases h:s.data.toList with
 | nil =>
  have e:decide ((0:Int)<(ByteArray.size s:Int))=false:=by rw[size_len,h];simp
  rw[e];simp[negB,h]
 | cons c r =>
  have e:decide ((0:Int)<(ByteArray.size s:Int))=true:=by rw[size_len,h];simp
  rw[e,cond_true,ix0 h,Option.bind_some]
  congr 1
  simp only[negB,h,List.head?_cons,Option.some.injEq]
  refine decide_eq_decide.2 ⟨fun hc=>?_,fun hc=>by rw[hc];rfl⟩
  exact UInt8.toNat_inj.1 (by show c.toNat=45;omega)
theorem num_any(s:ByteArray):∃ r:Int×Bool,(r.2=true->In64 r.1/\itoaB r.1=s)/\ref32_number s=some r:=by
 rw[num_head]
 simp only[ref32_number.j1,ref32_number.j2,ref32_number.j3,jn]
 have key:∀ i0:Nat,i0<=s.data.toList.length->∃ r:Int×Bool,(r.2=true->In64 r.1/\itoaB r.1=s)/\loopN (ref32_number.s4 s (negB s)) (0,(i0:Int))=some r:=by
  intro i0 hi0
  refine LT.exP (T:=Int) s.data.toList (fun i t=>(t,(i:Int))) (fun _ t=>In64 t) _ ?_ ?_ hi0 ⟨by decide,by decide⟩
  ·intro i c t hc ht
   simp only[ref32_number.s4,size_len,dlt hc,cond_true,jn,ref32_number.j5,ref32_number.j6,ixS_at hc,Option.bind_some,inc_nat]
   cases decide (IntKind.i64.wrap (IntKind.i64.wrap (c.toNat:Int)-48)<0)
   ·simp only[cond_false]
    cases decide (9<IntKind.i64.wrap (IntKind.i64.wrap (c.toNat:Int)-48))
    ·simp only[cond_false]
     cases negB s
     ·exact .inl ⟨_,fun next=>(by simp only[cond_false];rfl),wrap_64 _⟩
     ·exact .inl ⟨_,fun next=>(by simp only[cond_true];rfl),wrap_64 _⟩
    ·exact .inr ⟨(0,false),fun h=>(by cases h),fun next=>by simp only[cond_true]⟩
   ·exact .inr ⟨(0,false),fun h=>(by cases h),fun next=>by simp only[cond_true]⟩
  ·intro t ht
   refine⟨(t,decide (itoaB t=s)),fun h=>⟨ht,by simpa using h⟩,fun next=>?_⟩
   have hd:decide ((s.data.toList.length:Int)<(ByteArray.size s:Int))=false:=by rw[size_len];simp
   simp only[ref32_number.s4,hd,cond_false,dec_x ht.1 ht.2,Option.bind_some]
 have fin:∀ i0:Nat,i0<=s.data.toList.length->∃ r:Int×Bool,(r.2=true->In64 r.1/\itoaB r.1=s)/\(bif decide ((i0:Int)=(ByteArray.size s:Int))then bif true then some (0,false)else loopN (ref32_number.s4 s (negB s)) (0,(i0:Int))else bif decide ((20:Int)<(ByteArray.size s:Int))then some (0,false)else loopN (ref32_number.s4 s (negB s)) (0,(i0:Int)))=some r:=by
  intro i0 hi0
  cases decide ((i0:Int)=(ByteArray.size s:Int))
  ·cases decide ((20:Int)<(ByteArray.size s:Int))
   ·exact key i0 hi0
   ·exact⟨(0,false),fun h=>(by cases h),rfl⟩
  ·exact⟨(0,false),fun h=>(by cases h),rfl⟩
 cases hn:negB s
 ·have:=fin 0 (Nat.zero_le _)
  rw[hn]at this
  exact this
 ·have hl:1<=s.data.toList.length:=by
   cases h:s.data.toList with
   | nil=>simp[negB,h]at hn
   | cons c r=>simp
  have:=fin 1 hl
  rw[hn]at this
  exact this
theorem dig_at{u j:Nat}(h:j<Lib.nDigits u):∃ c:UInt8,(Lib.decDigits u)[j]? = some c/\(c.toNat:Int)-48=((u / 10 ^ (Lib.nDigits u-1-j) % 10:Nat):Int):=
 ⟨_,dec_at h,by rw[ofNat_nat (by omega)];omega⟩
theorem pre_step(u n j:Nat)(h:j<n):u / 10 ^ (n-j)=u / 10 ^ (n-1-j) / 10:=by
 rw[Nat.div_div_eq_div_mul,<-Nat.pow_succ,show(n-1-j).succ=n-j by omega]
theorem num_itoa{v:Int}(h:In64 v):ref32_number (itoaB v)=some (v,true):=by
 obtain⟨h0,h1⟩:=h
 rw[num_head]
 simp only[ref32_number.j1,ref32_number.j2,ref32_number.j3,jn]
 by_cases hn:v<0
 ·have e:(itoaB v).data.toList=45::Lib.decDigits v.natAbs:=by simp only[itoaB,Lib.itoa];rw[if_pos hn]
  obtain⟨u,hu⟩:∃ u,u=v.natAbs:=⟨_,rfl⟩
  rw[<-hu]at e
  have hlen:(ByteArray.size (itoaB v):Int)=((1+Lib.nDigits u:Nat):Int):=by rw[size_len,e];simp[Lib.decDigits_length];omega
  have h19:=nDigits_19 (u:=u) (by omega)
  have hp:=Lib.nDigits_pos u
  have hneg:negB (itoaB v)=true:=by simp[negB,e]
  have d1:decide ((1:Int)=((1+Lib.nDigits u:Nat):Int))=false:=by simp;omega
  have d2:decide ((20:Int)<((1+Lib.nDigits u:Nat):Int))=false:=by simp;omega
  rw[hneg,hlen]
  simp only[cond_true,d1,d2,cond_false]
  refine LT.inv (T:=Int) (Lib.decDigits u) (fun j t=>(t,((1+j:Nat):Int))) (fun j t=>t = -((u / 10 ^ (Lib.nDigits u-j):Nat):Int)) ?_ ?_ (t0:=0) ?_
  ·intro j c t hc ht
   have hj:j<Lib.nDigits u:=by rw[<-Lib.decDigits_length];exact(List.getElem?_eq_some_iff.1 hc).1
   obtain⟨c',hc',hd⟩:=dig_at hj
   rw[hc]at hc';cases hc'
   have hs:=pre_step u (Lib.nDigits u) j hj
   have hix:ixS (itoaB v) ((1+j:Nat):Int)=some (c.toNat:Int):=ixS_at (by rw[e,Nat.add_comm];exact hc)
   have hle:u / 10 ^ (Lib.nDigits u-1-j)<=u:=Nat.div_le_self _ _
   obtain⟨x,hx⟩:∃ x,x=u / 10 ^ (Lib.nDigits u-1-j):=⟨_,rfl⟩
   rw[<-hx]at hd hs hle
   rw[hs]at ht
   have dl:decide (((1+j:Nat):Int)<((1+Lib.nDigits u:Nat):Int))=true:=by simp;omega
   have g1:decide (((x % 10:Nat):Int)<0)=false:=by simp;omega
   have g2:decide ((9:Int)<((x % 10:Nat):Int))=false:=by simp;omega
   refine .inl ⟨-(x:Int),fun next=>?_,?_⟩
   ·simp only[ref32_number.s4,hlen,dl,cond_true,jn,ref32_number.j5,ref32_number.j6,hix,Option.bind_some,dig_i,hd,g1,g2,cond_false]
    rw[ht,wr64 (n:=10 * -((x / 10:Nat):Int)) (by omega) (by omega),wr64 (by omega) (by omega)]
    congr 2
    omega
   ·rw[show Lib.nDigits u-(j+1)=Lib.nDigits u-1-j by omega,hx]
  ·intro t ht next
   rw[Lib.decDigits_length,Nat.sub_self,Nat.pow_zero,Nat.div_one]at ht
   have dl:decide (((1+(Lib.decDigits u).length:Nat):Int)<((1+Lib.nDigits u:Nat):Int))=false:=by rw[Lib.decDigits_length];simp
   have ev:t=v:=by omega
   simp only[ref32_number.s4,hlen,dl,cond_false,ev,dec_x h0 h1,Option.bind_some,decide_true]
  ·rw[Nat.sub_zero,Nat.div_eq_of_lt (Lib.lt_pow_nDigits u)];rfl
 ·have e:(itoaB v).data.toList=Lib.decDigits v.toNat:=by simp only[itoaB,Lib.itoa];rw[if_neg hn]
  obtain⟨u,hu⟩:∃ u,u=v.toNat:=⟨_,rfl⟩
  rw[<-hu]at e
  have hlen:(ByteArray.size (itoaB v):Int)=((Lib.nDigits u:Nat):Int):=by rw[size_len,e,Lib.decDigits_length]
  have h19:=nDigits_19 (u:=u) (by omega)
  have hp:=Lib.nDigits_pos u
  have hneg:negB (itoaB v)=false:=by
   obtain⟨c,r,ec,hc⟩:=dec_cons u
   simp only[negB,e,ec,List.head?_cons,Option.some.injEq,decide_eq_false_iff_not]
   intro hh;rw[hh]at hc;exact absurd hc (by decide)
  have d1:decide ((0:Int)=((Lib.nDigits u:Nat):Int))=false:=by simp;omega
  have d2:decide ((20:Int)<((Lib.nDigits u:Nat):Int))=false:=by simp;omega
  rw[hneg,hlen]
  simp only[d1,d2,cond_false]
  refine LT.inv (T:=Int) (Lib.decDigits u) (fun j t=>(t,(j:Int))) (fun j t=>t=((u / 10 ^ (Lib.nDigits u-j):Nat):Int)) ?_ ?_ (t0:=0) ?_
  ·intro j c t hc ht
   have hj:j<Lib.nDigits u:=by rw[<-Lib.decDigits_length];exact(List.getElem?_eq_some_iff.1 hc).1
   obtain⟨c',hc',hd⟩:=dig_at hj
   rw[hc]at hc';cases hc'
   have hs:=pre_step u (Lib.nDigits u) j hj
   have hix:ixS (itoaB v) (j:Int)=some (c.toNat:Int):=ixS_at (by rw[e];exact hc)
   have hle:u / 10 ^ (Lib.nDigits u-1-j)<=u:=Nat.div_le_self _ _
   obtain⟨x,hx⟩:∃ x,x=u / 10 ^ (Lib.nDigits u-1-j):=⟨_,rfl⟩
   rw[<-hx]at hd hs hle
   rw[hs]at ht
   have dl:decide ((j:Int)<((Lib.nDigits u:Nat):Int))=true:=by simp;omega
   have g1:decide (((x % 10:Nat):Int)<0)=false:=by simp;omega
   have g2:decide ((9:Int)<((x % 10:Nat):Int))=false:=by simp;omega
   refine .inl ⟨(x:Int),fun next=>?_,?_⟩
   ·simp only[ref32_number.s4,hlen,dl,cond_true,jn,ref32_number.j5,ref32_number.j6,hix,Option.bind_some,dig_i,hd,g1,g2,cond_false]
    rw[ht,wr64 (n:=10 * ((x / 10:Nat):Int)) (by omega) (by omega),wr64 (by omega) (by omega)]
    congr 2
    omega
   ·rw[show Lib.nDigits u-(j+1)=Lib.nDigits u-1-j by omega,hx]
  ·intro t ht next
   rw[Lib.decDigits_length,Nat.sub_self,Nat.pow_zero,Nat.div_one]at ht
   have dl:decide ((((Lib.decDigits u).length:Nat):Int)<((Lib.nDigits u:Nat):Int))=false:=by rw[Lib.decDigits_length];simp
   have ev:t=v:=by omega
   simp only[ref32_number.s4,hlen,dl,cond_false,ev,dec_x h0 h1,Option.bind_some,decide_true]
  ·rw[Nat.sub_zero,Nat.div_eq_of_lt (Lib.lt_pow_nDigits u)];rfl
theorem num_eq(s:ByteArray):∃ n,(itoaB (atoiB s)=s->n=atoiB s)/\ref32_number s=some (n,decide (itoaB (atoiB s)=s)):=by
 by_cases h:itoaB (atoiB s)=s
 ·have:=num_itoa (atoi_in s)
  rw[h]at this
  exact⟨_,fun _=>rfl,by rw[this];simp[h]⟩
 ·obtain⟨⟨n,b⟩,hr,e⟩:=num_any s
  refine⟨n,fun e=>absurd e h,?_⟩
  rw[e]
  cases b
  ·simp[h]
  ·obtain⟨hi,he⟩:=hr rfl
   refine absurd ?_ h
   rw[<-he,atoi_itoa hi]
end Go.Ab.X

set_option linter.all false
set_option maxRecDepth 100000
set_option maxHeartbeats 1000000
namespace Go.Ab.X
open Go.RowKit Go.Ab Go.Proofs
section
variable {S R:Type} {step:S->(S->Option R)->Option R}
theorem LT.invF{α T:Type}(l:List α)(mk:Nat->T->S)(P:Nat->T->Prop){r:Option R}
  (h1:∀ i a t,l[i]? = some a->P i t->(∃ t',(∀ next,step (mk i t) next=next (mk (i+1) t'))/\P (i+1) t')\/(∀ next,step (mk i t) next=r))
  (h2:∀ t,P l.length t->∀ next,step (mk l.length t) next=r) {i0:Nat} (hi0:i0<=l.length) {t0:T} (h0:P i0 t0):loopN step (mk i0 t0)=r:=by
 refine LT.eq ?_
 have key:∀(k i:Nat) (t:T),i+k=l.length->P i t->LT step (mk i t) r:=by
  intro k
  induction k with
  | zero =>
   intro i t hi hp
   have hh:i=l.length:=by omega
   subst hh
   exact .last (h2 t hp)
  | succ k ih =>
   intro i t hi hp
   obtain⟨a,ha⟩:∃ a,l[i]? = some a:=⟨_,List.getElem?_eq_getElem (show i<l.length by omega)⟩
   rcases h1 i a t ha hp with⟨t',e,hp'⟩|e
   ·exact .next e (ih (i+1) t' (by omega) hp')
   ·exact .last e
 exact key (l.length-i0) i0 t0 (by omega) h0
end
theorem wlit_nodup:(wlit.map (·.data.toList)).Nodup:=by decide +kernel
theorem w_inj{i j:Nat}{x:ByteArray}(hi:wlit[i]? = some x)(hj:wlit[j]? = some x):i=j:=by
 have hlt:=(List.getElem?_eq_some_iff.1 hi).1
 exact(List.getElem?_inj (l:=wlit.map (·.data.toList)) (by simpa using hlt) wlit_nodup).1 (by simp[hi,hj])
def Op(o:Nat)(b:ByteArray):Prop:=wlit[o]? = some b\/(o=0/\∀ i:Nat,wlit[i]?≠some b)
theorem Op.lt{o:Nat}{b:ByteArray}(h:Op o b):o<=29:=by
 rcases h with h|h
 ·have:o<30:=(List.getElem?_eq_some_iff.1 h).1
  omega
 ·omega
theorem index_w(b:ByteArray):∃ o:Nat,Op o b/\∃ r:Int,Index_str wlit b=some r/\max r 0=(o:Int):=by
 have:∃ r:Int,((r = -1/\∀ i:Nat,wlit[i]?≠some b)\/∃ i:Nat,r=i/\wlit[i]? = some b)/\Index_str wlit b=some r:=by
  rw[Index_str_eq]
  refine LT.exP (T:=Unit) wlit (fun i _=>(i:Int)) (fun i _=>∀ j,j<i->wlit[j]?≠some b) _ ?_ ?_ (i0:=0) (Nat.zero_le _) (t0:=()) (fun j h=>by omega)
  ·intro i x _ hx hp
   simp only[Index_str.s1,dlt hx,cond_true,ixL_nat,hx,Option.bind_some,inc_nat]
   by_cases h:b=x
   ·refine .inr ⟨(i:Int),.inr ⟨i,rfl,by rw[hx,h]⟩,fun next=>?_⟩
    simp only[h,decide_true,cond_true]
   ·refine .inl ⟨(),fun next=>by simp only[h,decide_false,cond_false],fun j hj=>?_⟩
    by_cases hji:j=i
    ·subst hji;rw[hx];intro e;injection e with e;exact h e.symm
    ·exact hp j (by omega)
  ·intro _ hp
   refine⟨-1,.inl ⟨rfl,fun i e=>?_⟩,fun next=>by simp only[Index_str.s1,dle,cond_false]⟩
   exact hp i (List.getElem?_eq_some_iff.1 e).1 e
 obtain⟨r,h,e⟩:=this
 rcases h with⟨rfl,h⟩|⟨i,rfl,h⟩
 ·exact⟨0,.inr ⟨rfl,h⟩,_,e,rfl⟩
 ·exact⟨i,.inl h,_,e,by omega⟩
theorem slc_ok{x:ByteArray}{i j:Nat}(h:i<=j)(hj:j<=x.size):slcB x (i:Int) (j:Int)=some ⟨((x.data.toList.drop i).take (j-i)).toArray⟩:=by
 unfold slcB
 rw[if_pos (by omega),Int.toNat_natCast,Int.toNat_natCast]
 congr 1
 apply ByteArray.ext
 rw[ByteArray.data_extract]
 apply Array.toList_inj.1
 simp
def cmB(o:Nat)(B:ByteArray):Scmd:=if o=1\/o=26\/o=27 then⟨o,atoiB B,⟨#[]⟩⟩else if o=2 then⟨o,0,B⟩else⟨o,0,⟨#[]⟩⟩
def okC(o:Nat)(B:ByteArray)(f:Bool):Bool:=if o=0 then false else if o=1\/o=26\/o=27 then f && decide (itoaB (atoiB B)=B)else if o=2 then f && fineB B else !f
theorem fin_app{a b:ByteArray}:decide (a++(⟨#[10]⟩:ByteArray)=b++⟨#[10]⟩)=decide (a.data.toList=b.data.toList):=by
 refine decide_eq_decide.2 ⟨fun h=>?_,fun h=>?_⟩
 ·have:=congrArg (fun x:ByteArray=>x.data.toList) h
  simpa using this
 ·rw[ByteArray.ext (Array.toList_inj.1 h)]
theorem line_ok{x:ByteArray}{A B:List UInt8}{f:Bool}{o:Nat}(hA:wlit[o]? = some ⟨A.toArray⟩)(h0:o≠0)(ho:o<=29)(hf:f=true->x.data.toList=A++32::B)(hn:f=false->x.data.toList=A/\B=[])(hfine:o=2->fineB ⟨B.toArray⟩=true) :
  decide (lineB (cmB o ⟨B.toArray⟩)=x++⟨#[10]⟩)=okC o ⟨B.toArray⟩ f:=by
 have hop:(cmB o ⟨B.toArray⟩).op=(o:Int):=by
  unfold cmB
  repeat' split
  all_goals rfl
 obtain⟨w,hw,_,hl⟩:=word_at (c:=cmB o ⟨B.toArray⟩) (by rw[hop];omega) (by rw[hop];omega)
 rw[hop,ixL_nat,hA]at hw
 injection hw with hw
 subst hw
 rw[hl,fin_app]
 have hnum:num (cmB o ⟨B.toArray⟩)=decide (o=1\/o=26\/o=27):=by
  unfold num;rw[hop]
  have e1:((o:Int)=1)=(o=1):=by simp;omega
  have e2:((o:Int)=26)=(o=26):=by simp;omega
  have e3:((o:Int)=27)=(o=27):=by simp;omega
  simp only[e1,e2,e3,Bool.decide_or]
  cases decide (o=1)<;>cases decide (o=26)<;>rfl
 rw[hnum,hop]
 unfold okC
 rw[if_neg h0]
 by_cases h1:o=1\/o=26\/o=27
 ·have hn':(cmB o ⟨B.toArray⟩).n=atoiB ⟨B.toArray⟩:=by unfold cmB;rw[if_pos h1]
  rw[if_pos h1,hn']
  simp only[h1,decide_true,cond_true]
  cases f
  ·obtain⟨e,rfl⟩:=hn rfl
   rw[e];simp
  ·rw[hf rfl]
   simp only[Bool.true_and]
   refine decide_eq_decide.2 ⟨fun h=>?_,fun h=>?_⟩
   ·have:=congrArg List.length h
    simp at h
    exact ByteArray.ext (Array.toList_inj.1 (by simpa using h))
   ·rw[h];simp
 ·have d2:decide ((o:Int)=2)=decide (o=2):=decide_eq_decide.2 (by omega)
  rw[if_neg h1,d2]
  simp only[h1,decide_false,cond_false]
  by_cases h2:o=2
  ·have ht:(cmB o ⟨B.toArray⟩).text=⟨B.toArray⟩:=by unfold cmB;rw[if_neg h1,if_pos h2]
   have hfi:=hfine h2
   rw[if_pos h2,ht,hfi]
   simp only[h2,decide_true,cond_true,Bool.and_true]
   cases f
   ·obtain⟨e,rfl⟩:=hn rfl
    rw[e];simp
   ·rw[hf rfl];simp
  ·rw[if_neg h2]
   simp only[h2,decide_false,cond_false]
   cases f
   ·obtain⟨e,rfl⟩:=hn rfl
    rw[e];simp
   ·rw[hf rfl];simp
structure Spl(x:ByteArray)(A B:List UInt8)(f:Bool):Prop where
 c:cutB x ⟨#[32]⟩=(⟨A.toArray⟩,⟨B.toArray⟩,f)
 y:f=true->x.data.toList=A++32::B
 n:f=false->x.data.toList=A/\B=[]
 k:A.count 32=0
theorem spl_ex(x:ByteArray):∃ A B f,Spl x A B f:=by
 obtain⟨h1,h2,h3⟩:=cutL_app 32 x.data.toList
 refine⟨_,_,_,?_,h1,fun h=>⟨((h2 h).1).symm,(h2 h).2.1⟩,h3⟩
 unfold cutB
 rw[show(⟨#[32]⟩:ByteArray).data.toList=[32]from rfl,cut_cutL]
theorem op_dec{o:Nat}(h:o<=29)(k:Nat):decide (IntKind.u8.wrap (o:Int)=(k:Int))=decide (o=k):=by
 rw[wr8 (by omega) (by omega)];exact decide_eq_decide.2 (by omega)
theorem command_a{x:ByteArray}(hx:x.size<=65600){A B:List UInt8}{f:Bool}(h:Spl x A B f){o:Nat}(ho:Op o ⟨A.toArray⟩){r:Int}(hr:Index_str wlit ⟨A.toArray⟩=some r)(hm:max r 0=(o:Int)) :
  article_command x=some (cmB o ⟨B.toArray⟩,okC o ⟨B.toArray⟩ f):=by
 have h29:=ho.lt
 have hw:IntKind.u8.wrap (o:Int)=(o:Int):=wr8 (by omega) (by omega)
 rw[article_command_eq,cut_x,Option.bind_some,words_x,Option.bind_some,h.c]
 simp only[hr,Option.bind_some,hm,jn]
 have d1:decide (IntKind.u8.wrap (o:Int)=1)=decide (o=1):=op_dec h29 1
 have d2:decide (IntKind.u8.wrap (o:Int)=2)=decide (o=2):=op_dec h29 2
 have d26:decide (IntKind.u8.wrap (o:Int)=26)=decide (o=26):=op_dec h29 26
 have d27:decide (IntKind.u8.wrap (o:Int)=27)=decide (o=27):=op_dec h29 27
 have hop:(cmB o ⟨B.toArray⟩).op=(o:Int):=by
  unfold cmB
  repeat' split
  all_goals rfl
 have fin:article_command.j1 x (⟨A.toArray⟩,⟨B.toArray⟩,f) (cmB o ⟨B.toArray⟩)=some (cmB o ⟨B.toArray⟩,okC o ⟨B.toArray⟩ f):=by
  have c0:decide ((o:Int)=0)=decide (o=0):=decide_eq_decide.2 (by omega)
  have c2:decide ((o:Int)=2)=decide (o=2):=decide_eq_decide.2 (by omega)
  simp only[article_command.j1,jn,hop,c0,c2]
  by_cases h0:o=0
  ·simp only[h0,decide_true,cond_true,article_command.j2,okC,if_true]
  ·have hA:wlit[o]? = some ⟨A.toArray⟩:=by
    rcases ho with ho|ho
    ·exact ho
    ·exact absurd ho.1 h0
   have go:(o=2->fineB ⟨B.toArray⟩=true)->article_command.j2 (cmB o ⟨B.toArray⟩) x false=some (cmB o ⟨B.toArray⟩,okC o ⟨B.toArray⟩ f):=by
    intro hfi
    have hn:In64 (cmB o ⟨B.toArray⟩).n:=by
     unfold cmB
     repeat' split
     ·exact atoi_in _
     ·exact⟨(by decide:(-9223372036854775808:Int)<=0),(by decide:(0:Int)<=9223372036854775807)⟩
     ·exact⟨(by decide:(-9223372036854775808:Int)<=0),(by decide:(0:Int)<=9223372036854775807)⟩
    have ht:(cmB o ⟨B.toArray⟩).text.size<=30:=by
     unfold cmB
     repeat' split
     ·exact(by decide:(⟨#[]⟩:ByteArray).size<=30)
     ·rename_i h2
      have:=hfi h2
      simp only[fineB,Bool.and_eq_true,decide_eq_true_eq]at this
      exact this.1.2
     ·exact(by decide:(⟨#[]⟩:ByteArray).size<=30)
    simp only[article_command.j2,cond_false]
    rw[line_x _ (by rw[hop];omega) (by rw[hop];omega) ht hn.1 hn.2,Option.bind_some,if_pos (by
     have:(⟨#[10]⟩:ByteArray).size=1:=rfl
     simp only[LIM];omega),line_ok hA h0 h29 h.y h.n hfi]
   simp only[h0,decide_false,cond_false]
   by_cases h2:o=2
   ·simp only[h2,decide_true,cond_true,fine_x,Option.bind_some]
    cases hf:fineB ⟨B.toArray⟩
    ·simp only[Bool.not_false,article_command.j2,cond_true,okC,hf]
     simp
    ·simp only[Bool.not_true]
     have:=go fun _=>hf
     rw[h2]at this
     exact this
   ·simp only[h2,decide_false,cond_false]
    exact go fun e=>absurd e h2
 rw[d1,d26,d27]
 simp only[article_command.j3,hm,d2,hw,atoi_x,Option.bind_some]
 by_cases k1:o=1
 ·simp only[k1,decide_true,cond_true]
  rw[k1]at fin;exact fin
 ·by_cases k26:o=26
  ·simp only[k26,decide_true,decide_false,cond_true,cond_false,Nat.reduceEqDiff]
   rw[k26]at fin;exact fin
  ·by_cases k27:o=27
   ·simp only[k27,decide_true,decide_false,cond_true,cond_false,Nat.reduceEqDiff]
    rw[k27]at fin;exact fin
   ·simp only[k1,k26,k27,decide_false,cond_false]
    have hc:cmB o ⟨B.toArray⟩=if o=2 then⟨o,0,⟨B.toArray⟩⟩else⟨o,0,⟨#[]⟩⟩:=by unfold cmB;rw[if_neg (by omega)]
    by_cases k2:o=2
    ·rw[if_pos k2]at hc
     rw[hc]at fin
     simp only[k2,decide_true,cond_true]at fin ⊢
     exact fin
    ·rw[if_neg k2]at hc
     rw[hc]at fin
     have c2:decide ((o:Int)=2)=false:=by simp;omega
     simp only[c2,cond_false,hc]
     exact fin
theorem at_tail{x:ByteArray}{A B:List UInt8}{f:Bool}(h:Spl x A B f):A.length<=x.size/\(decide ((A.length:Int)=(ByteArray.size x:Int)) = !f):=by
 rw[size_len]
 have hs:x.size=x.data.toList.length:=by rw[Array.length_toList];rfl
 rw[hs]
 cases f
 ·obtain⟨e,_⟩:=h.n rfl
  rw[e];simp
 ·rw[h.y rfl];simp;omega
theorem rest_slc{x:ByteArray}(hx:x.size<=65600){A B:List UInt8}(h:Spl x A B true):slcB x (IntKind.i64.wrap ((A.length:Int)+1)) (ByteArray.size x:Int)=some ⟨B.toArray⟩:=by
 have hs:x.size=x.data.toList.length:=by rw[Array.length_toList];rfl
 have hl:=hs
 rw[h.y rfl,List.length_append,List.length_cons]at hl
 rw[wr64 (by omega) (by omega),show((A.length:Int)+1)=((A.length+1:Nat):Int) by omega,slc_ok (by omega) (Nat.le_refl _),h.y rfl]
 congr 2
 rw[hl]
 simp
 exact List.take_of_length_le (by omega)
theorem ref_fin{x:ByteArray}(hx:x.size<=65600){A B:List UInt8}{f:Bool}(h:Spl x A B f){o:Nat}(ho:Op o ⟨A.toArray⟩) :
  ∃ c',(okC o ⟨B.toArray⟩ f=true->c'=cmB o ⟨B.toArray⟩)/\∀ next,ref32_Command.s3 wlit x (A.length:Int) ((o:Int),((wlit.length:Nat):Int)) next=some (c',okC o ⟨B.toArray⟩ f):=by
 have h29:=ho.lt
 have hw:IntKind.u8.wrap (o:Int)=(o:Int):=wr8 (by omega) (by omega)
 have d0:decide ((o:Int)=0)=decide (o=0):=decide_eq_decide.2 (by omega)
 have d1:decide ((o:Int)=1)=decide (o=1):=decide_eq_decide.2 (by omega)
 have d2:decide ((o:Int)=2)=decide (o=2):=decide_eq_decide.2 (by omega)
 have d26:decide ((o:Int)=26)=decide (o=26):=decide_eq_decide.2 (by omega)
 have d27:decide ((o:Int)=27)=decide (o=27):=decide_eq_decide.2 (by omega)
 obtain⟨_,hat⟩:=at_tail h
 simp only[ref32_Command.s3,dle,cond_false,jn,ref32_Command.j5,hw,d0,d1,d2,d26,d27,hat]
 by_cases h0:o=0
 ·exact⟨⟨o,0,⟨#[]⟩⟩,fun e=>by simp[okC,h0]at e,fun next=>by simp only[h0,decide_true,cond_true,okC,if_true]⟩
 ·simp only[h0,decide_false,cond_false]
  by_cases h1:o=1\/o=26\/o=27
  ·have h2:¬ o=2:=by omega
   have pick:∀ {T:Type} (a b:T),(bif !decide (o=1)then bif !decide (o=26)then bif !decide (o=27)then a else b else b else b)=b:=by
    intro T a b
    rcases h1 with e|e|e<;>simp[e]
   simp only[pick,cond_false,h2,decide_false]
   have hok:okC o ⟨B.toArray⟩ f=(f && decide (itoaB (atoiB ⟨B.toArray⟩)=⟨B.toArray⟩)):=by unfold okC;rw[if_neg h0,if_pos h1]
   have hcm:cmB o ⟨B.toArray⟩=⟨o,atoiB ⟨B.toArray⟩,⟨#[]⟩⟩:=by unfold cmB;rw[if_pos h1]
   rw[hok,hcm]
   cases f
   ·exact⟨⟨o,0,⟨#[]⟩⟩,fun e=>by simp at e,fun next=>by simp only[Bool.not_false,cond_true,Bool.false_and]⟩
   ·obtain⟨n,hn,e⟩:=num_eq ⟨B.toArray⟩
    refine⟨⟨o,n,⟨#[]⟩⟩,fun k=>?_,fun next=>?_⟩
    ·rw[hn (by simpa using k)]
    ·simp only[Bool.not_true,cond_false,rest_slc hx h,Option.bind_some,e,Bool.true_and]
  ·have n1:¬ o=1:=fun e=>h1 (.inl e)
   have n26:¬ o=26:=fun e=>h1 (.inr (.inl e))
   have n27:¬ o=27:=fun e=>h1 (.inr (.inr e))
   simp only[n1,n26,n27,decide_false,Bool.not_false,cond_true]
   by_cases h2:o=2
   ·have hok:okC o ⟨B.toArray⟩ f=(f && fineB ⟨B.toArray⟩):=by unfold okC;rw[if_neg h0,if_neg h1,if_pos h2]
    have hcm:cmB o ⟨B.toArray⟩=⟨o,0,⟨B.toArray⟩⟩:=by unfold cmB;rw[if_neg h1,if_pos h2]
    rw[hok,hcm]
    simp only[h2,decide_true,Bool.not_true,cond_false,cond_true]
    cases f
    ·exact⟨⟨2,0,⟨#[]⟩⟩,fun e=>by simp at e,fun next=>by simp only[Bool.not_false,cond_true,Bool.false_and];rfl⟩
    ·refine⟨⟨2,0,⟨B.toArray⟩⟩,fun _=>rfl,fun next=>?_⟩
     simp only[Bool.not_true,cond_false,rest_slc hx h,Option.bind_some,fine_r,Bool.true_and];rfl
   ·have hok:okC o ⟨B.toArray⟩ f = !f:=by unfold okC;rw[if_neg h0,if_neg h1,if_neg h2]
    have hcm:cmB o ⟨B.toArray⟩=⟨o,0,⟨#[]⟩⟩:=by unfold cmB;rw[if_neg h1,if_neg h2]
    rw[hok,hcm]
    exact⟨_,fun _=>rfl,fun next=>by simp only[h2,decide_false,Bool.not_false,cond_true]⟩
theorem command_r{x:ByteArray}(hx:x.size<=65600){A B:List UInt8}{f:Bool}(h:Spl x A B f){o:Nat}(ho:Op o ⟨A.toArray⟩) :
  ∃ c',(okC o ⟨B.toArray⟩ f=true->c'=cmB o ⟨B.toArray⟩)/\ref32_Command x=some (c',okC o ⟨B.toArray⟩ f):=by
 obtain⟨c',hc,hf⟩:=ref_fin hx h ho
 refine⟨c',hc,?_⟩
 have hs:x.size=x.data.toList.length:=by rw[Array.length_toList];rfl
 obtain⟨hA,_⟩:=at_tail h
 have inner:loopN (ref32_Command.s3 wlit x (A.length:Int)) (0,1)=some (c',okC o ⟨B.toArray⟩ f):=by
  refine LT.invF (T:=Int) wlit (fun i t=>(t,(i:Int))) (fun i t=>1<=i/\((t=0/\∀ j,1<=j->j<i->wlit[j]?≠some ⟨A.toArray⟩)\/∃ j:Nat,1<=j/\t=j/\wlit[j]? = some ⟨A.toArray⟩)) ?_ ?_ (i0:=1) (by decide) (t0:=0) ⟨Nat.le_refl _,.inl ⟨rfl,fun j h1 h2=>by omega⟩⟩
  ·intro i w t hw ht
   have hsl:slcB x 0 (A.length:Int)=some ⟨A.toArray⟩:=by
    have:=slc_ok (x:=x) (i:=0) (j:=A.length) (Nat.zero_le _) hA
    rw[show((0:Nat):Int)=0 from rfl]at this
    rw[this]
    congr 2
    cases f
    ·rw[(h.n rfl).1];simp
    ·rw[h.y rfl];simp
   simp only[ref32_Command.s3,dlt hw,cond_true,jn,ref32_Command.j4,ixL_nat,hw,Option.bind_some,hsl,inc_nat]
   obtain⟨hi,ht⟩:=ht
   by_cases hwa:w=⟨A.toArray⟩
   ·exact .inl ⟨(i:Int),fun next=>by simp only[hwa,decide_true,cond_true],by omega,.inr ⟨i,hi,rfl,by rw[hw,hwa]⟩⟩
   ·refine .inl ⟨t,fun next=>by simp only[hwa,decide_false,cond_false],by omega,?_⟩
    rcases ht with⟨ht,hj⟩|ht
    ·refine .inl ⟨ht,fun j h1 h2=>?_⟩
     by_cases hji:j=i
     ·subst hji;rw[hw];intro e;injection e with e;exact hwa e
     ·exact hj j h1 (by omega)
    ·exact .inr ht
  ·intro t ht next
   obtain⟨_,ht⟩:=ht
   have e:t=(o:Int):=by
    rcases ht with⟨rfl,hj⟩|⟨j,h1,rfl,hj⟩
    ·rcases ho with ho|⟨rfl,_⟩
     ·by_cases h0:o=0
      ·rw[h0];rfl
      ·exact absurd ho (hj o (by omega) (List.getElem?_eq_some_iff.1 ho).1)
     ·rfl
    ·rcases ho with ho|⟨_,ho⟩
     ·rw[w_inj ho hj]
     ·exact absurd hj (ho j)
   rw[e]
   exact hf next
 rw[ref32_Command_eq]
 refine LT.inv (T:=Unit) x.data.toList (fun i _=>(i:Int)) (fun i _=>i<=A.length) ?_ ?_ (t0:=()) (Nat.zero_le _)
 ·intro i b _ hb hi
  have hib:=(List.getElem?_eq_some_iff.1 hb).1
  simp only[ref32_Command.s1,size_len,dlt hb,cond_true,jn,ref32_Command.j2,ixS_at hb,Option.bind_some,rwords_x]
  by_cases hlt:i<A.length
  ·have hne:b≠32:=by
    intro e
    have hbA:A[i]? = some b:=by
     cases f
     ·rw[(h.n rfl).1]at hb;exact hb
     ·rw[h.y rfl,List.getElem?_append_left hlt]at hb;exact hb
    have:=List.count_pos_iff.2 (List.mem_of_getElem? hbA)
    rw[e,h.k]at this;omega
   have hd:decide ((b.toNat:Int)=32)=false:=by
    rw[decide_eq_false_iff_not];intro e
    exact hne (UInt8.toNat_inj.1 (by show b.toNat=32;omega))
   refine .inl ⟨(),fun next=>?_,hlt⟩
   simp only[hd,Bool.not_false,cond_true]
   rw[wr64 (by omega) (by omega),inc_nat]
  ·obtain rfl:i=A.length:=by omega
   refine .inr fun next=>?_
   have hbe:b=32:=by
    cases f
    ·rw[(h.n rfl).1]at hib;omega
    ·rw[h.y rfl,List.getElem?_append_right (Nat.le_refl _)]at hb
     simpa using hb.symm
   have hd:decide ((b.toNat:Int)=32)=true:=by rw[hbe];rfl
   simp only[hd,Bool.not_true,cond_false]
   exact inner
 ·intro _ hi next
  have hd:decide ((x.data.toList.length:Int)<(ByteArray.size x:Int))=false:=by rw[size_len];simp
  have e:x.data.toList.length=A.length:=by omega
  rw[e]at hd ⊢
  simp only[ref32_Command.s1,hd,cond_false,jn,ref32_Command.j2,rwords_x,Option.bind_some]
  exact inner
theorem command_eq{x:ByteArray}(hx:x.size<=65600):∃ c c' ok,(ok=true->c'=c)/\article_command x=some (c,ok)/\ref32_Command x=some (c',ok):=by
 obtain⟨A,B,f,h⟩:=spl_ex x
 obtain⟨o,ho,r,hr,hm⟩:=index_w ⟨A.toArray⟩
 obtain⟨c',hc,e⟩:=command_r hx h ho
 exact⟨_,c',_,hc,command_a hx h ho hr hm,e⟩
end Go.Ab.X

set_option linter.all false
set_option maxRecDepth 100000
set_option maxHeartbeats 1000000
namespace Go.Ab.X
open Go.RowKit Go.Ab Go.Proofs
theorem size_tl(x:ByteArray):x.size=x.data.toList.length:=by rw[Array.length_toList];rfl
theorem ref_inner{s:ByteArray}(hs:s.size<=65600){at_:Nat}{A B:List UInt8}{f:Bool}(hy:f=true->s.data.toList.drop at_=A++10::B)(hn:f=false->s.data.toList.drop at_=A)(hk:A.count 10=0)(hat:at_<s.size)
  {c':Scmd} {ok:Bool} (hc:ref32_Command ⟨A.toArray⟩=some (c',ok)) (line:Nat) (acc:List Scmd) (hl:line<=at_) (ha:acc.length<=at_) (next1:(Int×Int×List Scmd)->Option (List Scmd×Int×Int)) :
  loopN (ref32_Parse.s2 s ((at_:Int),(line:Int),acc) next1) ((at_:Int),acc)=bif ok && f then next1 (((at_+A.length+1:Nat):Int),((line+1:Nat):Int),acc++[c'])else some ([],((line+1:Nat):Int),70):=by
 have hsz:=size_tl s
 have hAl:at_+A.length<=s.size:=by
  have:(s.data.toList.drop at_).length=s.size-at_:=by rw[List.length_drop,<-hsz]
  cases f
  ·rw[hn rfl]at this;omega
  ·rw[hy rfl,List.length_append,List.length_cons]at this;omega
 have hw:IntKind.i64.wrap ((line:Int)+1)=((line+1:Nat):Int):=by rw[wr64 (by omega) (by omega)];omega
 have hsl:slcB s (at_:Int) ((at_+A.length:Nat):Int)=some ⟨A.toArray⟩:=by
  rw[slc_ok (by omega) hAl]
  congr 2
  rw[show at_+A.length-at_=A.length by omega]
  cases f
  ·rw[hn rfl];simp
  ·rw[hy rfl];simp
 have fin:∀ next2,ref32_Parse.j3 next2 (((at_+A.length:Nat):Int),acc) s ((at_:Int),(line:Int),acc) next1 (false,acc)=bif ok && f then next1 (((at_+A.length+1:Nat):Int),((line+1:Nat):Int),acc++[c'])else some ([],((line+1:Nat):Int),70):=by
  intro next2
  have hd:decide (((at_+A.length:Nat):Int)=(ByteArray.size s:Int)) = !f:=by
   have:(s.data.toList.drop at_).length=s.size-at_:=by rw[List.length_drop,<-hsz]
   cases f
   ·rw[hn rfl]at this
    simp;omega
   ·rw[hy rfl,List.length_append,List.length_cons]at this
    simp;omega
  simp only[ref32_Parse.j3,cond_false,hsl,Option.bind_some,hc,jn,hd,ref32_Parse.j4,hw]
  cases ok
  ·simp only[Bool.not_false,cond_true,Bool.false_and,cond_false]
  ·cases f
   ·simp only[Bool.not_true,Bool.not_false,cond_true,Bool.true_and,cond_false]
   ·simp only[Bool.not_true,cond_true,Bool.true_and,cond_false]
    rw[if_pos (by simp only[List.length_cons,List.length_nil,LIM];omega),wr64 (by omega) (by omega)]
    congr 1
 refine LT.invF (T:=List Scmd) s.data.toList (fun i t=>((i:Int),t)) (fun i t=>t=acc/\at_<=i/\i<=at_+A.length) ?_ ?_ (i0:=at_) (by omega) (t0:=acc) ⟨rfl,Nat.le_refl _,by omega⟩
 ·intro i b t hb hp
  obtain⟨rfl,h1,h2⟩:=hp
  have hlt:=(List.getElem?_eq_some_iff.1 hb).1
  simp only[ref32_Parse.s2,size_len,dlt hb,cond_true,jn,ixS_at hb,Option.bind_some]
  have hbd:(s.data.toList.drop at_)[i-at_]? = some b:=by rw[List.getElem?_drop,show at_+(i-at_)=i by omega];exact hb
  by_cases hi:i<at_+A.length
  ·have hne:b≠10:=by
    intro e
    have hbA:A[i-at_]? = some b:=by
     cases f
     ·rw[hn rfl]at hbd;exact hbd
     ·rw[hy rfl,List.getElem?_append_left (by omega)]at hbd;exact hbd
    have:=List.count_pos_iff.2 (List.mem_of_getElem? hbA)
    rw[e,hk]at this;omega
   have hd:decide ((b.toNat:Int)=10)=false:=by
    rw[decide_eq_false_iff_not];intro e
    exact hne (UInt8.toNat_inj.1 (by show b.toNat=10;omega))
   refine .inl ⟨t,fun next=>?_,rfl,by omega,by omega⟩
   simp only[ref32_Parse.j3,hd,Bool.not_false,cond_true]
   rw[wr64 (by omega) (by omega),inc_nat]
  ·obtain rfl:i=at_+A.length:=by omega
   refine .inr fun next=>?_
   have hbe:b=10:=by
    rw[show at_+A.length-at_=A.length by omega]at hbd
    cases f
    ·rw[hn rfl]at hbd
     have:=(List.getElem?_eq_some_iff.1 hbd).1;omega
    ·rw[hy rfl,List.getElem?_append_right (Nat.le_refl _)]at hbd
     simpa using hbd.symm
   have hd:decide ((b.toNat:Int)=10)=true:=by rw[hbe];rfl
   simp only[hd,Bool.not_true]
   exact fin next
 ·intro t hp next
  obtain⟨rfl,h1,h2⟩:=hp
  have hd:decide ((s.data.toList.length:Int)<(ByteArray.size s:Int))=false:=by rw[size_len];simp
  have e:s.data.toList.length=at_+A.length:=by omega
  rw[e]at hd ⊢
  simp only[ref32_Parse.s2,hd,cond_false,jn]
  exact fin next
theorem parse_lt{s:ByteArray}(hs:s.size<=65600):∀(k:Nat) (rest:List UInt8) (at_ line:Nat) (acc:List Scmd),rest.length<k->s.data.toList.drop at_=rest->at_<=s.size->line<=at_->acc.length<=at_ ->
  ∃ r,LT article_Parse.s1 (⟨rest.toArray⟩,(line:Int),acc) (some r)/\LT (ref32_Parse.s1 s) ((at_:Int),(line:Int),acc) (some r):=by
 intro k
 induction k with
 | zero=>intro rest at_ line acc h;omega
 | succ k ih =>
  intro rest at_ line acc hk hd hat hl ha
  have hsz:=size_tl s
  have hrl:rest.length=s.size-at_:=by rw[<-hd,List.length_drop,<-hsz]
  by_cases hr:rest=[]
  ·subst hr
   refine⟨(acc,0,0),.last fun next=>?_,.last fun next=>?_⟩
   ·simp only[article_Parse.s1];rfl
   ·have e:decide ((at_:Int)<(ByteArray.size s:Int))=false:=by simp at hrl ⊢;omega
    simp only[ref32_Parse.s1,e,cond_false]
  ·have hpos:0<rest.length:=List.length_pos_iff.2 hr
   have hat':at_<s.size:=by omega
   obtain⟨h1,h2,h3⟩:=cutL_app 10 rest
   obtain⟨A,hA⟩:∃ A,A=(cutL 10 rest).1:=⟨_,rfl⟩
   obtain⟨B,hB⟩:∃ B,B=(cutL 10 rest).2.1:=⟨_,rfl⟩
   obtain⟨f,hf⟩:∃ f,f=(cutL 10 rest).2.2:=⟨_,rfl⟩
   have hcut:cutB ⟨rest.toArray⟩ ⟨#[10]⟩=(⟨A.toArray⟩,⟨B.toArray⟩,f):=by
    unfold cutB
    rw[show(⟨#[10]⟩:ByteArray).data.toList=[10]from rfl,show(⟨rest.toArray⟩:ByteArray).data.toList=rest by simp,cut_cutL,hA,hB,hf]
   rw[<-hA,<-hB,<-hf]at h1
   rw[<-hA,<-hB,<-hf]at h2
   rw[<-hA]at h3
   have hAl:A.length<=rest.length:=by
    cases f
    ·rw[(h2 rfl).1];omega
    ·have:=congrArg List.length (h1 rfl);simp at this;omega
   obtain⟨c,c',ok,hcc,e1,e2⟩:=command_eq (x:=⟨A.toArray⟩) (by simp only[ByteArray.size,List.size_toArray];omega)
   have hin:=fun next1=>ref_inner hs (fun h=>by rw[hd];exact h1 h) (fun h=>by rw[hd];exact((h2 h).1).symm) h3 hat' e2 line acc hl ha next1
   have hne:decide ((⟨rest.toArray⟩:ByteArray)=⟨#[]⟩)=false:=by
    rw[decide_eq_false_iff_not];intro e
    have:=congrArg (fun x:ByteArray=>x.data.toList) e
    simp at this;exact hr this
   have hlt:decide ((at_:Int)<(ByteArray.size s:Int))=true:=by simp;omega
   have hw:IntKind.i64.wrap ((line:Int)+1)=((line+1:Nat):Int):=by rw[wr64 (by omega) (by omega)];omega
   cases hof:ok && f
   ·refine⟨([],((line+1:Nat):Int),70),.last fun next=>?_,.last fun next=>?_⟩
    ·simp only[article_Parse.s1,hne,Bool.not_false,cond_true,cut_x,hcut,Option.bind_some,e1,jn,article_Parse.j2,hw]
     cases f
     ·simp only[Bool.not_false,cond_true]
     ·cases ok
      ·simp only[Bool.not_true,Bool.not_false,cond_true,cond_false]
      ·cases hof
    ·simp only[ref32_Parse.s1,hlt,cond_true,hin,hof,cond_false]
   ·obtain⟨rfl,rfl⟩:ok=true/\f=true:=by simpa using hof
    have hcc:=hcc rfl
    subst hcc
    have hB':s.data.toList.drop (at_+A.length+1)=B:=by
     have h:=h1 rfl
     rw[<-hd]at h
     rw[Nat.add_assoc,<-List.drop_drop,h]
     simp
    have hlen:rest.length=A.length+(B.length+1):=by rw[h1 rfl];simp
    obtain⟨r,ha1,hr1⟩:=ih B (at_+A.length+1) (line+1) (acc++[c']) (by omega) hB' (by omega) (by omega) (by simp;omega)
    refine⟨r,.next (fun next=>?_) ha1,.next (fun next=>?_) hr1⟩
    ·simp only[article_Parse.s1,hne,Bool.not_false,cond_true,cut_x,hcut,Option.bind_some,e1,jn,article_Parse.j2,hw,Bool.not_true,cond_false]
     rw[if_pos (by simp only[List.length_cons,List.length_nil,LIM];omega)]
    ·simp only[ref32_Parse.s1,hlt,cond_true,hin,Bool.and_self]
theorem parse_eq{s:ByteArray}(hs:s.size<=65600):∃ r,article_Parse s=some r/\ref32_Parse s=some r:=by
 rw[article_Parse_eq,ref32_Parse_eq]
 cases decide ((65536:Int)<(ByteArray.size s:Int))
 ·simp only[cond_false]
  obtain⟨r,h1,h2⟩:=parse_lt hs (s.data.toList.length+1) s.data.toList 0 0 [] (by omega) rfl (Nat.zero_le _) (Nat.le_refl _) (Nat.le_refl _)
  have e:(⟨s.data.toList.toArray⟩:ByteArray)=s:=by simp
  rw[e]at h1
  exact⟨r,h1.eq,h2.eq⟩
 ·exact⟨_,rfl,rfl⟩
theorem same_ok(l:List Scmd):ref32_Same l l=some true:=by
 rw[ref32_Same_eq]
 simp only[decide_true,Bool.not_true,cond_false]
 refine LT.inv (T:=Unit) l (fun i _=>(i:Int)) (fun i _=>True) ?_ ?_ (t0:=()) trivial
 ·intro i c _ hc _
  refine .inl ⟨(),fun next=>?_,trivial⟩
  simp only[ref32_Same.s1,dlt hc,cond_true,ixL_nat,hc,Option.bind_some,decide_true,Bool.and_self,Bool.xor_self,cond_false,inc_nat]
 ·intro _ _ next
  simp only[ref32_Same.s1,dle,cond_false]
theorem twin_ok{l:List Scmd}(h:l.length<=LIM):law32_twin l=some l:=by
 rw[law32_twin_eq,if_pos (by simpa using h)];rfl
theorem great_ok{l:List Scmd}(h:l.length<=LIM):∃ b,ref32_Great l=some b/\(b=false->l.length<=65600):=by
 have hloop:∃ b:Bool,True/\loopN (ref32_Great.s2 l) (0,0)=some b:=by
  refine LT.exP (T:=Int) l (fun i t=>(t,(i:Int))) (fun _ _=>True) _ ?_ ?_ (i0:=0) (Nat.zero_le _) (t0:=0) trivial
  ·intro i c t hc _
   have hlt:=(List.getElem?_eq_some_iff.1 hc).1
   simp only[LIM]at h
   simp only[ref32_Great.s2,ref32_Great.j3,jn,dlt hc,cond_true]
   cases decide (t<=3000)
   ·exact .inr ⟨_,trivial,fun next=>by simp only[cond_false];rfl⟩
   ·refine .inl ⟨IntKind.i64.wrap (t+(ByteArray.size c.text:Int)),fun next=>?_,trivial⟩
    simp only[cond_true,ixL_nat,hc,Option.bind_some]
    rw[wr64 (n:=(i:Int)+1) (by omega) (by omega),inc_nat]
  ·intro t _
   exact⟨_,trivial,fun next=>by simp only[ref32_Great.s2,ref32_Great.j3,jn,dle,cond_false];rfl⟩
 obtain⟨b,_,hb⟩:=hloop
 rw[ref32_Great_eq]
 simp only[jn,ref32_Great.j1,hb]
 cases h1:decide ((300:Int)<(l.length:Int))
 ·have e:decide ((65600:Int)<(l.length:Int))=false:=by simp at h1 ⊢;omega
  simp only[cond_false,e]
  exact⟨b,rfl,fun _=>by simp at h1;omega⟩
 ·cases h2:decide ((l.length:Int)<=65536)
  ·simp only[cond_true,cond_false]
   cases h3:decide ((65600:Int)<(l.length:Int))
   ·exact⟨b,rfl,fun _=>by simp at h3;omega⟩
   ·exact⟨true,rfl,fun e=>by cases e⟩
  ·simp only[cond_true]
   exact⟨true,rfl,fun e=>by cases e⟩
theorem texts_law(l:List Scmd)(s:ByteArray)(hl:l.length<=LIM)(hR:∀ c∈l,CmdR c):law32_ArticleTexts l s=some true:=by
 rw[law32_ArticleTexts_eq]
 obtain⟨b,hb,_⟩:=great_ok hl
 simp only[jn,law32_ArticleTexts.j1,hb,Option.bind_some]
 cases b
 ·simp only[cond_false]
  have main:s.size<=65600->((law32_twin l).bind fun r4=>((article_Text r4).bind fun r5=>((ref32_Text l).bind fun r6=>((article_Parse s).bind fun r7=>((ref32_Parse s).bind fun r8=>(bif(decide (r5.1=r6.1))then(bif(decide (r5.2=r6.2))then((ref32_Same r7.1 r8.1).bind fun r9=>(bif r9 then(bif(decide (r7.2.1=r8.2.1))then(bif(decide (r7.2.2=r8.2.2))then((ref32_Same r4 l).bind fun r10=>some r10)else some false)else some false)else some false))else some false)else some false))))))=some true:=by
   intro hs
   obtain⟨r,e1,e2⟩:=parse_eq hs
   simp only[twin_ok hl,text_x,text_r l hR,e1,e2,Option.bind_some,decide_true,cond_true,same_ok]
  cases h1:decide ((5000:Int)<(ByteArray.size s:Int))
  ·have e:decide ((65600:Int)<(ByteArray.size s:Int))=false:=by simp at h1 ⊢;omega
   simp only[cond_false,e]
   exact main (by simp at h1;omega)
  ·cases h2:decide ((ByteArray.size s:Int)<=65536)
   ·simp only[cond_true,cond_false]
    cases h3:decide ((65600:Int)<(ByteArray.size s:Int))
    ·simp only[cond_false]
     exact main (by simp at h3;omega)
    ·simp only[cond_true]
   ·simp only[cond_true]
 ·simp only[cond_true]
end Go.Ab.X
