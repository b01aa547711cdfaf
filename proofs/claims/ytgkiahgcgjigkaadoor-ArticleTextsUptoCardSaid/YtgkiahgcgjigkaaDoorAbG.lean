/- A part of the proof: AbG. -/
import Derived.Test.YtgkiahgcgjigkaaDoorAbF
import Derived.Laws.StructEq
import Derived.LaidEqlPtr
import Derived.Laws.BytesString
set_option linter.all false
set_option linter.unusedVariables false
namespace Go.Ab
open Go.RowKit
theorem wrap_range(k:IntKind)(n:Int):k.min<=k.wrap n/\k.wrap n<=k.max:=by
 cases k<;>simp only[IntKind.wrap,IntKind.min,IntKind.max,IntKind.signed,IntKind.bits]<;>simp<;>(try split)<;>omega
theorem bytes_eq(a b:ByteArray):(a.toList == b.toList)=decide (a=b):=by
 rw[Bool.eq_iff_iff]
 simp only[beq_iff_eq,decide_eq_true_eq,ByteArray.toList_eq]
 constructor
 ·intro h
  cases a;cases b
  congr
  exact Array.ext' h
 ·rintro rfl;rfl
theorem bytes_get(s:ByteArray)(i:Nat):s[i]? = s.data[i]?:=by
 by_cases h:i<s.size
 ·rw[getElem?_pos s i h,getElem?_pos s.data i h];rfl
 ·rw[getElem?_neg s i h,getElem?_neg s.data i h]
section
variable {P:Program} {Γ : Ctx} {I:Addr->Prop} {θ:Nat->Option Value} {H:List AB} {w:World} {ev:Operand->Value} {ρ:Opd->AV} {o:Oper} {y:AV}
theorem ok_ix{t:TypeId}{x i:Operand}{x' i':Opd}(ho:o.op=.index t x i)(hu:P.underlying t=some .string)(S:Sim Γ I θ H w)(hx:RV I θ w (ρ x') (ev x))(hi:RV I θ w (ρ i') (ev i))
  (hy:ov ρ H (.ix x' i')=some y):Gives P Γ I θ H w ev o y:=by
 simp only[ov]at hy
 cases hq:ρ x'<;>rw[hq]at hy hx<;>try simp only[reduceCtorEq]at hy
 case s b =>
  cases hj:ρ i'<;>rw[hj]at hy hi<;>try simp only[reduceCtorEq]at hy
  case i k n =>
   split at hy
   ·rename_i h0
    obtain⟨c,hc,rfl⟩:=Option.map_eq_some_iff.1 hy
    simp only[RV]at hx hi
    refine gives_same S (v:=.int .u8 c.toNat) ?_ ?_
    ·have hb:b[n.toNat]? = some c:=by rw[bytes_get];exact hc
     simp[execOp,ho,Instr.index,asIntOf,hi.1,hx.1,run_underlying hu,h0,hb]
    ·simp only[RV,true_and]
     have:=c.toNat_lt
     simp[IntKind.min,IntKind.max,IntKind.signed,IntKind.bits]
     omega
   ·cases hy
theorem ok_nc{x:Operand}{x':Opd}(ho:o.op=.nilCheck x)(S:Sim Γ I θ H w)(hx:RV I θ w (ρ x') (ev x))(hy:ov ρ H (.nc x')=some y):Gives P Γ I θ H w ev o y:=by
 simp only[ov]at hy
 cases hq:ρ x'<;>rw[hq]at hy hx<;>try simp only[reduceCtorEq]at hy
 case ip p cs =>
  obtain rfl:=Option.some.inj hy
  simp only[RV]at hx
  obtain⟨hp,B,o',e,hc,_⟩:=hx
  exact gives_same S (v:=ev x) (by simp[execOp,ho,e]) (by simp only[RV];exact⟨hp,B,o',e,hc,by simp⟩)
 case ptr r j =>
  obtain rfl:=Option.some.inj hy
  have hx':=hx
  simp only[RV]at hx
  obtain⟨B,_,e⟩:=hx
  exact gives_same S (v:=ev x) (by simp[execOp,ho,e]) hx'
 case fn f a b =>
  cases f<;>try simp only[reduceCtorEq]at hy
  obtain rfl:=Option.some.inj hy
  have hx':=hx
  simp only[RV]at hx
  obtain⟨p,q,e,_⟩:=hx
  exact gives_same S (v:=ev x) (by simp[execOp,ho,e]) hx'
def biOk(P:Program)(t:TypeId):Bool:=
 match P.underlying t with
 | some .bool=>true
 | some (.int _)=>true
 | some .string=>true
 | _=>false
theorem tmod_rng(k:IntKind)(a b:Int)(h:k.min<=a/\a<=k.max):k.min<=a.tmod b/\a.tmod b<=k.max:=by
 have h0:k.min<=0:=by cases k<;>simp[IntKind.min,IntKind.signed,IntKind.bits]
 have h1:0<=k.max:=by cases k<;>simp[IntKind.max,IntKind.signed,IntKind.bits]
 have h2:(a.tmod b).natAbs<=a.natAbs:=by rw[Int.natAbs_tmod];exact Nat.mod_le _ _
 rcases Int.le_total 0 a with ha|ha
 ·have:=Int.tmod_nonneg b ha;omega
 ·have h3:0<=(-a).tmod b:=Int.tmod_nonneg b (by omega)
  rw[Int.neg_tmod]at h3
  omega
theorem ok_bi{t yt:TypeId}{op:BinOp}{x z:Operand}{x' z':Opd}(ho:o.op=.binOp op t x z yt)(hk:biOk P t=true)(S:Sim Γ I θ H w)(hx:RV I θ w (ρ x') (ev x))(hz:RV I θ w (ρ z') (ev z))
  (hy:ov ρ H (.bi op x' z')=some y):Gives P Γ I θ H w ev o y:=by
 simp only[ov]at hy
 cases hq:ρ x'<;>rw[hq]at hy hx<;>try simp only[reduceCtorEq]at hy
 case i k a =>
  cases hj:ρ z'<;>rw[hj]at hy hz<;>try simp only[reduceCtorEq]at hy
  case i k' b =>
   split at hy
   ·rename_i hkk
    subst hkk
    simp only[RV]at hx hz
    have hr:=wrap_range k
    cases op<;>simp only[biI,reduceCtorEq,Option.some.injEq]at hy
    case quo =>
     split at hy
     ·cases hy
     ·rename_i hb
      obtain rfl:=Option.some.inj hy
      exact gives_same S (v:=.int k (k.wrap (a.tdiv b))) (by simp[execOp,ho,eqGuard,binOp,hx.1,hz.1,Op.intDiv,hb]) (by simp only[RV,true_and];exact hr _)
    case rem =>
     split at hy
     ·cases hy
     ·rename_i hb
      obtain rfl:=Option.some.inj hy
      exact gives_same S (v:=.int k (a.tmod b)) (by simp[execOp,ho,eqGuard,binOp,hx.1,hz.1,Op.intDiv,hb]) (by simp only[RV,true_and];exact tmod_rng k a b hx.2)
    all_goals
     subst hy
     first
      | exact gives_same S (v:=.int k (k.wrap (a+b))) (by simp[execOp,ho,eqGuard,binOp,hx.1,hz.1,Op.intArith]) (by simp only[RV,true_and];exact hr _)
      | exact gives_same S (v:=.int k (k.wrap (a-b))) (by simp[execOp,ho,eqGuard,binOp,hx.1,hz.1,Op.intArith]) (by simp only[RV,true_and];exact hr _)
      | exact gives_same S (v:=.int k (k.wrap (a * b))) (by simp[execOp,ho,eqGuard,binOp,hx.1,hz.1,Op.intArith]) (by simp only[RV,true_and];exact hr _)
      | (refine gives_same S (v:=.bool _) ?_ (by simp only[RV];rfl);simp[execOp,ho,eqGuard,binOp,hx.1,hz.1,Op.intCmp];done)
      | (refine gives_same S (v:=.bool _) ?_ (by simp only[RV];rfl);simp[execOp,ho,eqGuard,binOp,hx.1,hz.1,Op.intCmp,bne,BEq.beq];done)
   ·cases hy
 case s a =>
  cases hj:ρ z'<;>rw[hj]at hy hz<;>try simp only[reduceCtorEq]at hy
  case s b =>
   simp only[RV]at hx hz
   cases op<;>simp only[biS,reduceCtorEq,Option.some.injEq]at hy
   case add =>
    split at hy
    ·rename_i hle
     obtain rfl:=Option.some.inj hy
     refine gives_same S (v:=.string (a++b)) ?_ (by simp only[RV,true_and];simpa using hle)
     have hmax:¬ ((a.size+b.size:Nat):Int) > IntKind.i64.max:=by simp only[LIM]at hle;simp[IntKind.max,IntKind.signed,IntKind.bits];omega
     simp only[execOp,ho,eqGuard,binOp,hx.1,hz.1,Op.stringOp,hmax,if_false]
     simp
    ·cases hy
   all_goals
    subst hy
    refine gives_same S (v:=.bool _) ?_ (by simp only[RV];rfl)
    simp[execOp,ho,eqGuard,binOp,hx.1,hz.1,Op.stringOp,bytes_eq,blt]
theorem ok_bib{t yt:TypeId}{op:BinOp}{x z:Operand}{x' z':Opd}(ho:o.op=.binOp op t x z yt)(hk:P.underlying t=some .bool)(S:Sim Γ I θ H w)(hx:RV I θ w (ρ x') (ev x))(hz:RV I θ w (ρ z') (ev z))
  (hy:ov ρ H (.bib op x' z')=some y):Gives P Γ I θ H w ev o y:=by
 simp only[ov]at hy
 split at hy
 ·rename_i a b hq hj
  rw[hq]at hx
  rw[hj]at hz
  simp only[RV]at hx hz
  have he:∀ d,(Op.equalIn (d+1) t (.bool a) (.bool b)).run P w=.ok (a == b) w:=by
   intro d
   simp[Op.equalIn,run_underlying hk]
  have he':(Op.equal t (.bool a) (.bool b)).run P w=.ok (a == b) w:=he 9999
  cases op<;>simp only[biB,reduceCtorEq,Option.some.injEq]at hy
  all_goals
   subst hy
   refine gives_same S (v:=.bool _) ?_ (by simp only[RV];rfl)
   simp[execOp,ho,eqGuard,binOp,hx,hz,he']
 ·cases hy
theorem ok_un{t:TypeId}{op:UnOp}{x:Operand}{x':Opd}(ho:o.op=.unOp op t x)(S:Sim Γ I θ H w)(hx:RV I θ w (ρ x') (ev x))(hy:ov ρ H (.un op x')=some y):Gives P Γ I θ H w ev o y:=by
 simp only[ov]at hy
 split at hy
 ·rename_i a hq
  rw[hq]at hx
  obtain rfl:=Option.some.inj hy
  simp only[RV]at hx
  exact gives_same S (v:=.bool (!a)) (by simp[execOp,ho,Op.unary,hx]) (by simp[RV])
 ·rename_i k n hq
  rw[hq]at hx
  obtain rfl:=Option.some.inj hy
  simp only[RV]at hx
  exact gives_same S (v:=.int k (k.wrap (0-n))) (by simp[execOp,ho,hx.1,Op.unary,Op.intArith]) (by simp only[RV,true_and];exact wrap_range k _)
 ·cases hy
theorem ok_pk{c x z:Operand}{c' x' z':Opd}(ho:o.op=.pick c x z)(S:Sim Γ I θ H w)(hc:RV I θ w (ρ c') (ev c))(hx:RV I θ w (ρ x') (ev x))(hz:RV I θ w (ρ z') (ev z))(hy:ov ρ H (.pk c' x' z')=some y):Gives P Γ I θ H w ev o y:=by
 simp only[ov]at hy
 split at hy
 ·rename_i a hq
  rw[hq]at hc
  obtain rfl:=Option.some.inj hy
  simp only[RV]at hc
  cases a
  ·exact gives_same S (v:=ev z) (by simp[execOp,ho,hc,asBool]) hz
  ·exact gives_same S (v:=ev x) (by simp[execOp,ho,hc,asBool]) hx
 ·cases hy
theorem ok_cvi{src dst:TypeId}{k:IntKind}{x:Operand}{x':Opd}{d:TypeDesc}(ho:o.op=.convert src dst x)(hs:P.underlying src=some d)(hu:P.underlying dst=some (.int k))(S:Sim Γ I θ H w)(hx:RV I θ w (ρ x') (ev x))
  (hy:ov ρ H (.cvi k x')=some y):Gives P Γ I θ H w ev o y:=by
 simp only[ov]at hy
 split at hy
 ·rename_i k' n hq
  rw[hq]at hx
  obtain rfl:=Option.some.inj hy
  simp only[RV]at hx
  refine gives_same S (v:=.int k (k.wrap n)) ?_ (by simp only[RV,true_and];exact wrap_range k n)
  simp[execOp,ho,convert,run_underlying hs,run_underlying hu,hx.1,Conv.intToInt]
 ·cases hy
theorem enc_size(n:Int):(Utf8.encode n).size<=LIM:=by
 unfold Utf8.encode
 simp only
 repeat' split
 all_goals (simp[ByteArray.size,LIM])
theorem bytesOf_cells{I:Addr->Prop}{θ:Nat->Option Value}{w:World}:∀(els:List (List AV)) (ns:List Int) (B o:Nat),bytesOf els=some ns->RVe I θ w els B o ->
  ns.length=els.length/\∀ j v,(ns.map (Value.int .u8))[j]? = some v->w.cell? ⟨B,o+j,none⟩=some v
 | [],ns,B,o,h,_=>by simp only[bytesOf,Option.some.injEq]at h;subst h;simp
 | el::r,ns,B,o,h,hr=>by
  unfold bytesOf at h
  split at h
  ·rename_i n
   obtain⟨ms,h1,rfl⟩:=Option.map_eq_some_iff.1 h
   simp only[RVe,RVc,RV,List.length_cons,List.length_nil]at hr
   obtain⟨⟨⟨_,v,hc,_,hv⟩,_⟩,hr⟩:=hr
   obtain⟨h2,h3⟩:=bytesOf_cells r ms B (o+1) h1 hr
   refine⟨by simp[h2],fun j u hj=>?_⟩
   cases j with
   | zero=>simp only[List.map_cons,List.getElem?_cons_zero,Option.some.injEq]at hj;rw[Nat.add_zero,hc,hv.1,hj]
   | succ j=>simp only[List.map_cons,List.getElem?_cons_succ]at hj;have:=h3 j u hj;rwa [show o+(j+1)=o+1+j by omega]
  ·cases h
theorem foldl_push(ns:List Int):∀(s:ByteArray),ns.foldl (fun r n=>r.push (UInt8.ofNat n.toNat)) s=⟨s.data++(ns.map fun n=>UInt8.ofNat n.toNat).toArray⟩:=by
 induction ns with
 | nil=>intro s;simp
 | cons n ns ih =>
  intro s
  rw[List.foldl_cons,ih]
  refine ByteArray.ext ?_
  simp[ByteArray.push]
theorem ok_cvb{src dst e:TypeId}{x:Operand}{x':Opd}(ho:o.op=.convert src dst x)(hs:P.underlying src=some (.slice e))(he:P.underlying e=some (.int .u8))(hu:P.underlying dst=some .string)(S:Sim Γ I θ H w)(hx:RV I θ w (ρ x') (ev x))
  (hy:ov ρ H (.cvb x')=some y):Gives P Γ I θ H w ev o y:=by
 simp only[ov]at hy
 split at hy
 ·rename_i hq
  rw[hq]at hx
  obtain rfl:=Option.some.inj hy
  simp only[RV]at hx
  refine gives_same S (v:=.string (bytesS [])) ?_ (by simp only[RV,true_and];simp[bytesS,ByteArray.size,LIM])
  simp[execOp,ho,hx,run_convert_bytes_string w src dst e none 0 0 hs he hu,Conv.bytesToString,bytesS,ByteArray.empty,ByteArray.emptyWithCapacity];rfl
 ·rename_i t sz els hq
  rw[hq]at hx
  obtain⟨ns,hn,rfl⟩:=Option.map_eq_some_iff.1 hy
  simp only[RV]at hx
  obtain⟨h0,a,cap,ea,h1,h2,h3,h4,h5⟩:=hx
  have hlen:ns.length=els.length:=by
   clear hy h5 ea h1 h2 h3 h4 h0 hq
   induction els generalizing ns with
   | nil=>simp only[bytesOf,Option.some.injEq]at hn;subst hn;rfl
   | cons el r ih =>
    unfold bytesOf at hn
    split at hn
    ·obtain⟨ms,h1,rfl⟩:=Option.map_eq_some_iff.1 hn
     simp[ih ms h1]
    ·cases hn
  have hsz:(bytesS ns).size<=LIM:=by simp only[bytesS,ByteArray.size,List.size_toArray,List.length_map];omega
  refine gives_same S (v:=.string (bytesS ns)) ?_ (by simp only[RV,true_and];exact hsz)
  have hr:(Conv.bytesToString (.slice a els.length cap)).run P w=.ok (.string (bytesS ns)) w:=by
   by_cases hne:els=[]
   ·subst hne
    simp only[List.length_nil,List.length_eq_zero_iff]at hlen
    subst hlen
    cases a with
    | none=>simp[Conv.bytesToString,bytesS,ByteArray.empty,ByteArray.emptyWithCapacity,Sem.run_pure];rfl
    | some a =>
     rw[List.length_nil,run_bytesToString w a 0 cap [] (by have:=run_loadCells_list (P:=P) w a [] (fun j v hj=>by simp at hj);simpa using this)]
     simp[bytesS,ByteArray.empty,ByteArray.emptyWithCapacity];rfl
   ·obtain⟨_,_,B,o,rfl,h8⟩:=h5 hne
    obtain⟨_,hc⟩:=bytesOf_cells els ns B o hn h8
    have:=run_loadCells_list (P:=P) w ⟨B,o,none⟩ (ns.map (Value.int .u8)) (fun j v hj=>by rw[addB];exact hc j v hj)
    rw[List.length_map,hlen]at this
    rw[run_bytesToString w ⟨B,o,none⟩ els.length cap ns this,foldl_push]
    simp only[bytesS,ByteArray.empty,ByteArray.emptyWithCapacity];congr 2;refine ByteArray.ext ?_;simp;rfl
  simp[execOp,ho,ea,run_convert_bytes_string w src dst e a els.length cap hs he hu,hr]
 ·cases hy
theorem ok_cvr{src dst:TypeId}{x:Operand}{x':Opd}{d:TypeDesc}(ho:o.op=.convert src dst x)(hs:P.underlying src=some d)(hu:P.underlying dst=some .string)(S:Sim Γ I θ H w)(hx:RV I θ w (ρ x') (ev x))
  (hy:ov ρ H (.cvr x')=some y):Gives P Γ I θ H w ev o y:=by
 simp only[ov]at hy
 split at hy
 ·rename_i k' n hq
  rw[hq]at hx
  obtain rfl:=Option.some.inj hy
  simp only[RV]at hx
  refine gives_same S (v:=.string (Utf8.encode n)) ?_ (by simp only[RV,true_and];exact enc_size n)
  simp[execOp,ho,convert,run_underlying hs,run_underlying hu,hx.1,Conv.intToString]
 ·cases hy
theorem rng_len{n:Nat}(hn:n<=LIM):RV I θ w (.i .i64 n) (.int .i64 n):=by
 simp only[RV,true_and,LIM]at *
 simp[IntKind.min,IntKind.max,IntKind.signed,IntKind.bits]
 omega
theorem ok_len{t e:TypeId}{x:Operand}{x':Opd}(ho:o.op=.call { callee:=.builtin .len,args:=#[x],argTypes:=#[t] })(hu:P.underlying t=some (.slice e))
  (S:Sim Γ I θ H w) (hx:RV I θ w (ρ x') (ev x)) (hy:ov ρ H (.len x')=some y):Gives P Γ I θ H w ev o y:=by
 have fin:∀(a:Option Addr) (l c:Nat),ev x=.slice a l c->l<=LIM->y=.i .i64 l->Gives P Γ I θ H w ev o y:=by
  rintro a l c e hl rfl
  refine gives_same S (v:=.int .i64 l) ?_ (rng_len hl)
  simp[execOp,ho,resolve,invoke,builtin,Builtin.len_,run_underlying hu,e,goInt]
 simp only[ov]at hy
 cases hq:ρ x'<;>rw[hq]at hy hx<;>try simp only[reduceCtorEq]at hy
 case sl tt sz els =>
  obtain rfl:=Option.some.inj hy
  simp only[RV]at hx
  obtain⟨_,a,cap,ex,_,_,h3,_⟩:=hx
  exact fin a _ cap ex h3 rfl
 case nils =>
  obtain rfl:=Option.some.inj hy
  simp only[RV]at hx
  exact fin none 0 0 hx (by simp) (by simp)
 case row r =>
  cases hh:H[r]? with
  | none=>rw[hh]at hy;simp at hy
  | some ab =>
   rw[hh]at hy
   cases ab with
   | gone=>simp at hy
   | pin _ _=>simp at hy
   | map _ _=>simp at hy
   | box _ _=>simp at hy
   | row e' sz' els =>
    obtain rfl:=Option.some.inj hy
    simp only[RV]at hx
    obtain⟨v,xs,k1,k2,k3,k4,k5,_,k6⟩:=S.row r e' sz' els hh
    have hv:v=ev x:=by rw[hx.1]at k1;exact(Option.some.inj k1).symm
    subst hv
    rcases k2.2 with⟨ex,hz⟩|⟨g,cap,cur,ex,_⟩
    ·exact fin none 0 0 ex (by simp) (by simp[hz])
    ·exact fin _ _ cap ex k6 rfl
 case rv r sz lo n =>
  obtain rfl:=Option.some.inj hy
  simp only[RV]at hx
  obtain⟨a,l,c,e1,e2,e3,e4,e5,e6,a',ex,_⟩:=hx
  exact fin a' n (c-lo) ex e4 rfl
theorem ok_lens{t:TypeId}{x:Operand}{x':Opd}(ho:o.op=.call { callee:=.builtin .len,args:=#[x],argTypes:=#[t] })(hu:P.underlying t=some .string)
  (S:Sim Γ I θ H w) (hx:RV I θ w (ρ x') (ev x)) (hy:ov ρ H (.lens x')=some y):Gives P Γ I θ H w ev o y:=by
 simp only[ov]at hy
 split at hy
 ·rename_i b hq
  rw[hq]at hx
  obtain rfl:=Option.some.inj hy
  simp only[RV]at hx
  refine gives_same S (v:=.int .i64 b.size) ?_ (rng_len hx.2)
  simp[execOp,ho,resolve,invoke,builtin,Builtin.len_,run_underlying hu,hx.1,goInt]
 ·cases hy
theorem ok_mx{x z:Operand}{x' z':Opd}{ts:Array TypeId}(ho:o.op=.call { callee:=.builtin .max,args:=#[x,z],argTypes:=ts })(S:Sim Γ I θ H w)(hx:RV I θ w (ρ x') (ev x))(hz:RV I θ w (ρ z') (ev z))
  (hy:ov ρ H (.mx x' z')=some y):Gives P Γ I θ H w ev o y:=by
 simp only[ov]at hy
 split at hy
 ·rename_i k a k' b hq hj
  rw[hq]at hx
  rw[hj]at hz
  split at hy
  ·rename_i hkk
   subst hkk
   obtain rfl:=Option.some.inj hy
   simp only[RV]at hx hz
   refine gives_same S (v:=.int k (max a b)) ?_ (by simp only[RV,true_and];omega)
   have hm:(if b > a then b else a)=max a b:=by split<;>omega
   simp[execOp,ho,resolve,invoke,builtin,Builtin.max_,Builtin.max2,hx.1,hz.1,hm]
  ·cases hy
 ·cases hy
theorem ok_mn{x z:Operand}{x' z':Opd}{ts:Array TypeId}(ho:o.op=.call { callee:=.builtin .min,args:=#[x,z],argTypes:=ts })(S:Sim Γ I θ H w)(hx:RV I θ w (ρ x') (ev x))(hz:RV I θ w (ρ z') (ev z))
  (hy:ov ρ H (.mn x' z')=some y):Gives P Γ I θ H w ev o y:=by
 simp only[ov]at hy
 split at hy
 ·rename_i k a k' b hq hj
  rw[hq]at hx
  rw[hj]at hz
  split at hy
  ·rename_i hkk
   subst hkk
   obtain rfl:=Option.some.inj hy
   simp only[RV]at hx hz
   refine gives_same S (v:=.int k (min a b)) ?_ (by simp only[RV,true_and];omega)
   have hm:(if b<a then b else a)=min a b:=by split<;>omega
   simp[execOp,ho,resolve,invoke,builtin,Builtin.min_,Builtin.min2,hx.1,hz.1,hm]
  ·cases hy
 ·cases hy
theorem ok_ext{x:Operand}{x':Opd}{n:Nat}(ho:o.op=.extract x n)(S:Sim Γ I θ H w)(hx:RV I θ w (ρ x') (ev x))(hy:ov ρ H (.ext x' n)=some y):Gives P Γ I θ H w ev o y:=by
 simp only[ov]at hy
 split at hy
 ·rename_i vs hq
  rw[hq]at hx
  simp only[RV]at hx
  obtain⟨us,e,h⟩:=hx
  obtain⟨v,k1,k2⟩:=RVs_get h n y hy
  refine gives_same S (v:=v) ?_ k2
  simp[execOp,ho,Instr.extract,e,k1]
 ·cases hy
def opdsOk:List Operand->List Opd->Bool
 | [],[]=>true
 | x::xs,y::ys=>opdOk x y && opdsOk xs ys
 | _,_=>false
theorem opds_rv(hρ:∀ x x',opdOk x x'=true->RV I θ w (ρ x') (ev x)):∀ {xs:List Operand} {ys:List Opd},opdsOk xs ys=true->RVs I θ w (ys.map ρ) (xs.map ev)
 | [],[],_=>by simp[RVs]
 | x::xs,z::ys,h=>by
  simp only[opdsOk,Bool.and_eq_true]at h
  simp only[List.map_cons,RVs]
  exact⟨_,_,rfl,hρ x z h.1,opds_rv hρ h.2⟩
 | [],_::_,h=>by simp[opdsOk]at h
 | _::_,[],h=>by simp[opdsOk]at h
theorem ok_mkf{f:Fn}{a b:Array Operand}{a' b':List Opd}(ho:o.op=.makeFunc f a b)(ha:opdsOk a.toList a'=true)(hb:opdsOk b.toList b'=true)(S:Sim Γ I θ H w)
  (hρ:∀ x x',opdOk x x'=true->RV I θ w (ρ x') (ev x)) (hy:ov ρ H (.mkf f a' b')=some y):Gives P Γ I θ H w ev o y:=by
 simp only[ov,Option.some.injEq]at hy
 subst hy
 refine gives_same S (v:=.func f (a.map ev) (b.map ev)) (by simp[execOp,ho,Instr.makeFunc]) ?_
 simp only[RV]
 exact⟨a.toList.map ev,b.toList.map ev,by simp only[Value.func.injEq,true_and];exact⟨Array.ext' (by simp),Array.ext' (by simp)⟩,opds_rv hρ ha,opds_rv hρ hb⟩
def bndOk:Option Operand->Option Opd->Bool
 | none,none=>true
 | some x,some y=>opdOk x y
 | _,_=>false
theorem bnd_run(hρ:∀ x x',opdOk x x'=true->RV I θ w (ρ x') (ev x)){x:Operand}{x':Opd}{d n m:Nat}{code:BoundsCode}(hk:opdOk x x'=true)(hb:bnd ρ d (some x')=some n)(hle:n<=m) :
  (Instr.sliceBound (ev x) m code).run P w=.ok n w:=by
 simp only[bnd]at hb
 split at hb
 ·rename_i k i hq
  have:=hρ x x' hk
  rw[hq]at this
  simp only[RV]at this
  split at hb
  ·rename_i h0
   obtain rfl:=Option.some.inj hb
   have h2:i<=(m:Int):=by omega
   simp[Instr.sliceBound,asIntOf,this.1,h0,h2]
  ·cases hb
 ·cases hb
theorem pureE_take:∀ {els:List (List AV)},pureE els=true->∀ n,pureE (els.take n)=true
 | [],_,n=>by simp[pureE]
 | c::cs,h,n=>by
  cases n with
  | zero=>simp[pureE]
  | succ n=>simp only[pureE,Bool.and_eq_true,List.take_succ_cons]at h ⊢;exact⟨h.1,pureE_take h.2 n⟩
theorem pureE_drop:∀ {els:List (List AV)},pureE els=true->∀ n,pureE (els.drop n)=true
 | [],_,n=>by simp[pureE]
 | c::cs,h,n=>by
  cases n with
  | zero=>simpa using h
  | succ n=>simp only[pureE,Bool.and_eq_true]at h;simpa using pureE_drop h.2 n
theorem RVe_take:∀ {els:List (List AV)} {B o':Nat},RVe I θ w els B o'->∀ n,RVe I θ w (els.take n) B o'
 | [],_,_,_,n=>by simp[RVe]
 | c::cs,B,o',h,n=>by
  cases n with
  | zero=>simp[RVe]
  | succ n=>simp only[RVe,List.take_succ_cons]at h ⊢;exact⟨h.1,RVe_take h.2 n⟩
theorem RVe_drop{sz:Nat}:∀ {els:List (List AV)} {B o':Nat},RVe I θ w els B o'->(∀ el∈els,el.length=sz)->∀ n,RVe I θ w (els.drop n) B (o'+n * sz)
 | [],_,_,_,_,n=>by simp[RVe]
 | c::cs,B,o',h,hl,n=>by
  cases n with
  | zero=>simpa using h
  | succ n =>
   simp only[RVe]at h
   have:=RVe_drop h.2 (fun e he=>hl e (List.mem_cons_of_mem _ he)) n
   rw[hl c (List.mem_cons_self ..)]at this
   simp only[List.drop_succ_cons]
   rw[Nat.succ_mul,Nat.add_comm (n * sz),<-Nat.add_assoc]
   exact this
theorem ok_slc{t e:TypeId}{x:Operand}{x':Opd}{lo hi mx:Option Operand}{lo' hi' mx':Option Opd}{sz:Nat}(ho:o.op=.slice t x lo hi mx)(hu:P.underlying t=some (.slice e))(hn:szOf P e=some sz)
  (h1:bndOk lo lo'=true) (h2:bndOk hi hi'=true) (h3:bndOk mx mx'=true) (hmx:mx'.isSome->hi'.isSome) (S:Sim Γ I θ H w) (hρ:∀ x x',opdOk x x'=true->RV I θ w (ρ x') (ev x)) (hx:RV I θ w (ρ x') (ev x))
  (hy:ov ρ H (.slc sz x' lo' hi' mx')=some y):Gives P Γ I θ H w ev o y:=by
 simp only[ov]at hy
 cases hq:ρ x'<;>rw[hq]at hy hx<;>try simp only[reduceCtorEq]at hy
 case sl tt sz' els =>
  simp only[RV]at hx
  obtain⟨hp,a,cap,ex,c1,c2,c3,c4,c5⟩:=hx
  split at hy
  ·rename_i l h m hl hh hm
   split at hy
   ·rename_i hc
    obtain⟨d1,d2,d3,d4⟩:=hc
    obtain rfl:=Option.some.inj hy
    have hb:∃ m',(Instr.sliceBounds true els.length cap (lo.map ev) (hi.map ev) (mx.map ev)).run P w=.ok (l,h,m') w/\h<=m'/\m'<=cap/\(mx'.isSome=true->m'=m):=by
     have L:(lo=none/\l=0)\/∃ z,lo=some z/\∀ code,(Instr.sliceBound (ev z) h code).run P w=.ok l w:=by
      cases lo<;>cases lo'<;>simp only[bndOk,Bool.false_eq_true]at h1
      ·simp only[bnd,Option.some.injEq]at hl;exact .inl ⟨rfl,hl.symm⟩
      ·exact .inr ⟨_,rfl,fun code=>bnd_run hρ h1 hl d1⟩
     cases mx<;>cases mx'<;>simp only[bndOk,Bool.false_eq_true]at h3
     ·refine⟨cap,?_,by omega,Nat.le_refl _,by simp⟩
      cases hi<;>cases hi'<;>simp only[bndOk,Bool.false_eq_true]at h2
      ·simp only[bnd,Option.some.injEq]at hh
       subst hh
       rcases L with⟨rfl,rfl⟩|⟨z,rfl,hz⟩
       ·simp[Instr.sliceBounds]
       ·simp[Instr.sliceBounds,hz]
      ·have h5:=bnd_run (P:=P) (code:=.sliceAcap) hρ h2 hh (show h<=cap by omega)
       rcases L with⟨rfl,rfl⟩|⟨z,rfl,hz⟩
       ·simp[Instr.sliceBounds,h5]
       ·simp[Instr.sliceBounds,hz,h5]
     ·have h6:=bnd_run (P:=P) (code:=.slice3Acap) hρ h3 hm (show m<=cap by omega)
      have:=hmx rfl
      cases hi<;>cases hi'<;>simp only[bndOk,Bool.false_eq_true]at h2
      ·simp at this
      ·have h5:=bnd_run (P:=P) (code:=.slice3B) hρ h2 hh d2
       refine⟨m,?_,d2,by omega,fun _=>rfl⟩
       rcases L with⟨rfl,rfl⟩|⟨z,rfl,hz⟩
       ·simp[Instr.sliceBounds,h5,h6]
       ·simp[Instr.sliceBounds,hz,h5,h6]
    obtain⟨m',b1,b2,b3,b4⟩:=hb
    refine gives_same S (v:=.slice (if m'=l then a else a.map (·.add (l * sz))) (h-l) (m'-l)) ?_ ?_
    ·simp[execOp,ho,Instr.sliceAt,run_underlying hu,Instr.slice,ex,b1,run_sizeOf hn]
    ·have hlen:((els.take h).drop l).length=h-l:=by simp;omega
     simp only[RV]
     refine⟨pureE_drop (pureE_take hp h) l,_,m'-l,by rw[hlen],by rw[hlen];omega,by omega,by rw[hlen];omega,?_,?_⟩
     ·intro ht
      simp only[Bool.and_eq_true,beq_iff_eq]at ht
      have:=b4 ht.1
      rw[hlen]
      omega
     ·intro hne
      have hlt:l<h:=by
       rcases Nat.lt_or_ge l h with hh|hh
       ·exact hh
       ·exact absurd (List.eq_nil_of_length_eq_zero (by rw[hlen];omega)) hne
      obtain⟨e1,e2,B,o',rfl,e3⟩:=c5 (by intro e;subst e;simp at d3;omega)
      refine⟨e1,fun el hel=>e2 el (List.mem_of_mem_take (List.mem_of_mem_drop hel)),B,o'+l * sz',?_,RVe_drop (RVe_take e3 h) (fun el hel=>e2 el (List.mem_of_mem_take hel)) l⟩
      rw[if_neg (by omega)]
      simp only[Option.map_some,addB]
      rcases d4 with rfl|rfl<;>simp
   ·cases hy
  ·cases hy
theorem ok_rsl{t e:TypeId}{x:Operand}{x':Opd}{lo hi mx:Option Operand}{lo' hi' mx':Option Opd}{sz:Nat}(ho:o.op=.slice t x lo hi mx)(hu:P.underlying t=some (.slice e))(hn:szOf P e=some sz)
  (h1:bndOk lo lo'=true) (h2:bndOk hi hi'=true) (h3:bndOk mx mx'=true) (hmx:mx'.isSome->hi'.isSome) (S:Sim Γ I θ H w) (hρ:∀ x x',opdOk x x'=true->RV I θ w (ρ x') (ev x)) (hx:RV I θ w (ρ x') (ev x))
  (hy:ov ρ H (.rsl sz x' lo' hi' mx')=some y):Gives P Γ I θ H w ev o y:=by
 have key:∀(a:Option Addr) (len cap M l h m:Nat),ev x=.slice a len cap->M<=cap->bnd ρ 0 lo'=some l->bnd ρ len hi'=some h->bnd ρ M mx'=some m->l<=h->h<=m->m<=M ->
   ∃ m',(execOp ev o).run P w=.ok (.value (.slice (if m'=l then a else a.map (·.add (l * sz))) (h-l) (m'-l))) w/\h<=m'/\m'<=cap/\(mx'=none->m'=cap):=by
  intro a len cap M l h m ex c1 hl hh hm d1 d2 d3
  have hb:∃ m',(Instr.sliceBounds true len cap (lo.map ev) (hi.map ev) (mx.map ev)).run P w=.ok (l,h,m') w/\h<=m'/\m'<=cap/\(mx'=none->m'=cap):=by
   have L:(lo=none/\l=0)\/∃ z,lo=some z/\∀ code,(Instr.sliceBound (ev z) h code).run P w=.ok l w:=by
    cases lo<;>cases lo'<;>simp only[bndOk,Bool.false_eq_true]at h1
    ·simp only[bnd,Option.some.injEq]at hl;exact .inl ⟨rfl,hl.symm⟩
    ·exact .inr ⟨_,rfl,fun code=>bnd_run hρ h1 hl d1⟩
   cases mx<;>cases mx'<;>simp only[bndOk,Bool.false_eq_true]at h3
   ·refine⟨cap,?_,by omega,Nat.le_refl _,by simp⟩
    cases hi<;>cases hi'<;>simp only[bndOk,Bool.false_eq_true]at h2
    ·simp only[bnd,Option.some.injEq]at hh
     subst hh
     rcases L with⟨rfl,rfl⟩|⟨z,rfl,hz⟩
     ·simp[Instr.sliceBounds]
     ·simp[Instr.sliceBounds,hz]
    ·have h5:=bnd_run (P:=P) (code:=.sliceAcap) hρ h2 hh (show h<=cap by omega)
     rcases L with⟨rfl,rfl⟩|⟨z,rfl,hz⟩
     ·simp[Instr.sliceBounds,h5]
     ·simp[Instr.sliceBounds,hz,h5]
   ·have h6:=bnd_run (P:=P) (code:=.slice3Acap) hρ h3 hm (show m<=cap by omega)
    have:=hmx rfl
    cases hi<;>cases hi'<;>simp only[bndOk,Bool.false_eq_true]at h2
    ·simp at this
    ·have h5:=bnd_run (P:=P) (code:=.slice3B) hρ h2 hh d2
     refine⟨m,?_,d2,by omega,fun h=>by cases h⟩
     rcases L with⟨rfl,rfl⟩|⟨z,rfl,hz⟩
     ·simp[Instr.sliceBounds,h5,h6]
     ·simp[Instr.sliceBounds,hz,h5,h6]
  obtain⟨m',b1,b2,b3,b4⟩:=hb
  exact⟨m',by simp[execOp,ho,Instr.sliceAt,run_underlying hu,Instr.slice,ex,b1,run_sizeOf hn],b2,b3,b4⟩
 simp only[ov]at hy
 cases hq:ρ x'<;>rw[hq]at hy hx<;>try simp only[reduceCtorEq]at hy
 case row r =>
  cases hh:H[r]? with
  | none=>rw[hh]at hy;simp at hy
  | some ab =>
   rw[hh]at hy
   cases ab with
   | gone=>simp at hy
   | pin _ _=>simp at hy
   | map _ _=>simp at hy
   | box _ _=>simp at hy
   | row e' sz' els =>
    simp only at hy
    split at hy
    ·rename_i l h m hl hh' hm
     split at hy
     ·rename_i hc
      obtain⟨d1,d2,d3,rfl⟩:=hc
      obtain rfl:=Option.some.inj hy
      simp only[RV]at hx
      obtain⟨v,xs,k1,k2,k3,k4,k5,_,k6⟩:=S.row r e' sz els hh
      have hv:v=ev x:=by rw[hx.1]at k1;exact(Option.some.inj k1).symm
      subst hv
      obtain⟨a,cap,ex,c1,c2,ca⟩:∃ a cap,ev x=.slice a els.length cap/\els.length<=cap/\cap<=maxLen/\(a=none/\els.length=0\/∃ B,a=some ⟨B,0,none⟩):=by
       rcases k2.2 with⟨ex,hz⟩|⟨g,cap,cur,ex,_,_,hle,hcm,_⟩
       ·exact⟨none,0,by rw[ex,hz],by omega,by simp[maxLen],.inl ⟨rfl,hz⟩⟩
       ·exact⟨_,cap,ex,hle,hcm,.inr ⟨g,rfl⟩⟩
      obtain⟨m',r1,r2,r3,r4⟩:=key a els.length cap els.length l h m ex c1 hl hh' hm d1 d2 d3
      refine gives_same S r1 ?_
      cases mx' with
      | some _=>simp[RV]
      | none =>
       obtain rfl:=r4 rfl
       simp only[Option.isSome_none,cond_false,RV]
       refine⟨a,els.length,m',by rw[hx.1,ex],by omega,c1,by omega,c2,ca.imp (·.1) id,_,rfl,?_,?_⟩
       ·rintro rfl
        rcases ca with⟨rfl,_⟩|⟨B,rfl⟩
        ·split<;>rfl
        ·split
         ·rfl
         ·simp[addB]
       ·intro hne
        rcases ca with⟨rfl,hz⟩|⟨B,rfl⟩
        ·omega
        ·refine⟨B,rfl,?_⟩
         rw[if_neg (by omega)]
         simp[addB]
     ·cases hy
    ·cases hy
 case rv r sz' lo0 n0 =>
  split at hy
  ·rename_i e' szr els hh
   split at hy
   ·rename_i l h m hl hh' hm
    split at hy
    ·rename_i hc
     obtain⟨d1,d2,d3,rfl⟩:=hc
     obtain rfl:=Option.some.inj hy
     simp only[RV]at hx
     obtain⟨a,ll,cap,e1,e2,e3,e4,e5,e6,a',ex,e7,e8⟩:=hx
     obtain⟨v,xs,k1,k2,k3,k4,k5,_,k6⟩:=S.row r e' szr els hh
     obtain rfl:v=.slice a ll cap:=by rw[k1]at e1;exact Option.some.inj e1
     have hll:ll=els.length/\(a=none->els.length=0):=by
      rcases k2.2 with⟨ex,hz⟩|⟨g,cap',cur,ex,_,_,hle,hcm,_⟩
      ·cases ex;exact⟨hz.symm,fun _=>hz⟩
      ·cases ex;exact⟨rfl,fun h=>by cases h⟩
     obtain⟨rfl,hnone⟩:=hll
     have hM:(bif lo0 == 0 then els.length else n0)<=cap-lo0/\lo0+(bif lo0 == 0 then els.length else n0)<=els.length:=by
      by_cases h0:lo0=0
      ·subst h0;simp only[BEq.rfl,cond_true];omega
      ·rw[beq_eq_false_iff_ne.2 h0,cond_false];omega
     obtain⟨m',r1,r2,r3,r4⟩:=key a' n0 (cap-lo0) _ l h m ex hM.1 hl hh' hm d1 d2 d3
     refine gives_same S r1 ?_
     cases mx' with
     | some _=>simp[RV]
     | none =>
      obtain rfl:=r4 rfl
      simp only[Option.isSome_none,cond_false,RV]
      refine⟨a,els.length,cap,e1,by omega,e3,by omega,e5,e6,_,by rw[Nat.sub_sub],?_,?_⟩
      ·intro h0
       obtain⟨rfl,rfl⟩:lo0=0/\l=0:=by omega
       rw[e7 rfl]
       rcases e6 with rfl|⟨B,rfl⟩
       ·split<;>rfl
       ·split
        ·rfl
        ·simp[addB]
      ·intro hne
       have:∃ B,a=some ⟨B,0,none⟩/\a'=some ⟨B,lo0 * sz,none⟩:=by
        by_cases h0:lo0=0
        ·subst h0
         rcases e6 with rfl|⟨B,rfl⟩
         ·have:=hnone rfl;omega
         ·exact⟨B,rfl,by rw[e7 rfl];simp⟩
        ·rw[beq_eq_false_iff_ne.2 h0,cond_false]at d3
         exact e8 (by omega)
       obtain⟨B,rfl,rfl⟩:=this
       refine⟨B,rfl,?_⟩
       rw[if_neg (by omega)]
       simp[addB,Nat.add_mul]
    ·cases hy
   ·cases hy
  ·cases hy
theorem ok_slcs{t:TypeId}{x:Operand}{x':Opd}{lo hi:Option Operand}{lo' hi':Option Opd}(ho:o.op=.slice t x lo hi none)(hu:P.underlying t=some .string)
  (h1:bndOk lo lo'=true) (h2:bndOk hi hi'=true) (S:Sim Γ I θ H w) (hρ:∀ x x',opdOk x x'=true->RV I θ w (ρ x') (ev x)) (hx:RV I θ w (ρ x') (ev x))
  (hy:ov ρ H (.slcs x' lo' hi')=some y):Gives P Γ I θ H w ev o y:=by
 simp only[ov]at hy
 cases hq:ρ x'<;>rw[hq]at hy hx<;>try simp only[reduceCtorEq]at hy
 case s b =>
  simp only[RV]at hx
  split at hy
  ·rename_i l h hl hh
   split at hy
   ·rename_i hc
    obtain⟨d1,d2⟩:=hc
    obtain rfl:=Option.some.inj hy
    have L:(lo=none/\l=0)\/∃ z,lo=some z/\∀ code,(Instr.sliceBound (ev z) h code).run P w=.ok l w:=by
     cases lo<;>cases lo'<;>simp only[bndOk,Bool.false_eq_true]at h1
     ·simp only[bnd,Option.some.injEq]at hl;exact .inl ⟨rfl,hl.symm⟩
     ·exact .inr ⟨_,rfl,fun code=>bnd_run hρ h1 hl d1⟩
    have hb:(Instr.sliceBounds false b.size b.size (lo.map ev) (hi.map ev) none).run P w=.ok (l,h,b.size) w:=by
     cases hi<;>cases hi'<;>simp only[bndOk,Bool.false_eq_true]at h2
     ·simp only[bnd,Option.some.injEq]at hh
      subst hh
      rcases L with⟨rfl,rfl⟩|⟨z,rfl,hz⟩
      ·simp[Instr.sliceBounds]
      ·simp[Instr.sliceBounds,hz]
     ·have h5:=bnd_run (P:=P) (code:=.sliceAlen) hρ h2 hh d2
      rcases L with⟨rfl,rfl⟩|⟨z,rfl,hz⟩
      ·simp[Instr.sliceBounds,h5]
      ·simp[Instr.sliceBounds,hz,h5]
    refine gives_same S (v:=.string (b.extract l h)) ?_ ?_
    ·simp[execOp,ho,Instr.sliceAt,run_underlying hu,Instr.slice,hx.1,hb]
    ·simp only[RV,true_and,ByteArray.size_extract]
     have:=hx.2
     omega
   ·cases hy
  ·cases hy
theorem run_slice_nil{t e:TypeId}(a:Option Addr)(n c:Nat)(h:P.underlying t=some (.slice e))(ng:Bool):(binOp (bif ng then .neq else .eql) t (.slice a n c) (.slice none 0 0)).run P w=.ok (.bool (bif ng then !a.isNone else a.isNone)) w:=by
 have h0:∀ d,(Op.equalIn (d+1) t (.slice a n c) (.slice none 0 0)).run P w=.ok a.isNone w:=fun d=>by cases a<;>simp[Op.equalIn,run_underlying h]
 have h1:(Op.equal t (.slice a n c) (.slice none 0 0)).run P w=.ok a.isNone w:=h0 9999
 cases ng<;>simp only[cond_true,cond_false,binOp]<;>simp[h1]
theorem ok_eqn{t yt e:TypeId}{ng:Bool}{x:Operand}{x':Opd}(ho:o.op=.binOp (bif ng then .neq else .eql) t x (.const (.slice none 0 0)) yt)(hu:P.underlying t=some (.slice e))(S:Sim Γ I θ H w)
  (hc:ev (.const (.slice none 0 0))=.slice none 0 0) (hx:RV I θ w (ρ x') (ev x)) (hy:ov ρ H (.eqn ng x')=some y):Gives P Γ I θ H w ev o y:=by
 have fin:∀(a:Option Addr) (l c:Nat),ev x=.slice a l c->(RV I θ w y (.bool (bif ng then !a.isNone else a.isNone)))->Gives P Γ I θ H w ev o y:=by
  intro a l c e hr
  refine gives_same S ?_ hr
  have hf:=run_slice_nil (P:=P) (w:=w) a l c hu false
  have ht:=run_slice_nil (P:=P) (w:=w) a l c hu true
  simp only[cond_true,cond_false]at hf ht
  cases ng<;>simp only[cond_true,cond_false]at ho ⊢<;>simp[execOp,ho,hc,e,eqGuard,hf,ht]
 simp only[ov]at hy
 cases hq:ρ x'<;>rw[hq]at hy hx<;>try simp only[reduceCtorEq]at hy
 case sl tt sz els =>
  obtain rfl:=Option.some.inj hy
  simp only[RV]at hx
  obtain⟨_,a,cap,ex,_,_,h3,_,h5⟩:=hx
  refine fin a _ cap ex ?_
  cases els with
  | nil=>simp[RV]
  | cons c cs =>
   obtain⟨_,_,B,o',rfl,_⟩:=h5 (by simp)
   cases ng<;>simp[RV]
 case nils =>
  obtain rfl:=Option.some.inj hy
  simp only[RV]at hx
  refine fin none 0 0 hx ?_
  cases ng<;>simp[RV]
 case rv r sz lo n =>
  obtain rfl:=Option.some.inj hy
  simp only[RV]at hx
  obtain⟨a,l,c,e1,e2,e3,e4,e5,e6,a',ex,_⟩:=hx
  exact fin _ _ _ ex (by simp[RV])
 case row r =>
  cases hh:H[r]? with
  | none=>rw[hh]at hy;simp at hy
  | some ab =>
   rw[hh]at hy
   cases ab with
   | gone=>simp at hy
   | pin _ _=>simp at hy
   | map _ _=>simp at hy
   | box _ _=>simp at hy
   | row e' sz' els =>
    obtain rfl:=Option.some.inj hy
    simp only[RV]at hx
    obtain⟨v,xs,k1,k2,k3,k4,k5,_,k6⟩:=S.row r e' sz' els hh
    have hv:v=ev x:=by rw[hx.1]at k1;exact(Option.some.inj k1).symm
    subst hv
    rcases k2.2 with⟨ex,hz⟩|⟨g,cap,cur,ex,_⟩
    ·obtain rfl:=List.eq_nil_of_length_eq_zero hz
     exact fin none 0 0 ex (by simp[RV])
    ·refine fin _ _ cap ex ?_
     cases els with
     | nil=>simp[RV]
     | cons c cs=>cases ng<;>simp[RV]
end
section
variable {I J:Addr->Prop} {θ η:Nat->Option Value} {w:World}
mutual
theorem neB_rv:∀(x y:AV) (v:Value),RV I θ w x v->RV J η w y v->neB x y=false
 | .i _ n,y,v,h,k=>by cases y<;>simp only[neB];simp only[RV]at h k;rw[h.1]at k;have:=k.1;simp at this ⊢;exact this.2
 | .b x,y,v,h,k=>by cases y<;>simp only[neB];simp only[RV]at h k;rw[h]at k;simp at k ⊢;exact k
 | .s x,y,v,h,k=>by cases y<;>simp only[neB];simp only[RV]at h k;rw[h.1]at k;have:=k.1;simp at this ⊢;exact this
 | .nilp,y,v,h,k=>by
  cases y<;>simp only[neB]
  simp only[RV]at h k;obtain⟨_,B,o,e,_⟩:=k;rw[h]at e;cases e
 | .ip _ cs,y,v,h,k=>by
  cases y<;>simp only[neB]
  case nilp=>simp only[RV]at h k;obtain⟨_,B,o,e,_⟩:=h;rw[k]at e;cases e
  case ip p ds =>
   simp only[RV]at h k;obtain⟨_,B,o,e,h,_⟩:=h;obtain⟨_,B',o',e',k,_⟩:=k
   rw[e]at e';cases e';exact neL_rvc cs ds B o h k
 | .sl _ _ e1,y,v,h,k=>by
  cases y<;>simp only[neB]
  rename_i e2
  simp only[RV]at h k
  obtain⟨_,a,c,e,_,_,_,_,h⟩:=h;obtain⟨_,a',c',e',_,_,_,_,k⟩:=k
  rw[e]at e';simp only[Value.slice.injEq]at e'
  simp only[e'.2.1,bne_self_eq_false,Bool.false_or]
  cases e1 with
  | nil=>simp[neE]
  | cons x1 e1 =>
   cases e2 with
   | nil=>simp[neE]
   | cons x2 e2 =>
    obtain⟨_,_,B,o,ea,h⟩:=h (by simp);obtain⟨_,_,B',o',ea',k⟩:=k (by simp)
    rw[ea,ea']at e';obtain⟨rfl,rfl⟩:B=B'/\o=o':=by simpa using e'.1
    exact neE_rve (x1::e1) (x2::e2) B o h k
 | .u,y,_,_,_=>by cases y<;>rfl
 | .agg _,y,_,_,_=>by cases y<;>rfl
 | .tup _,y,_,_,_=>by cases y<;>rfl
 | .nils,y,_,_,_=>by cases y<;>rfl
 | .row _,y,_,_,_=>by cases y<;>rfl
 | .ptr _ _,y,_,_,_=>by cases y<;>rfl
 | .rptr _ _ _ _,y,_,_,_=>by cases y<;>rfl
 | .fn _ _ _,y,_,_,_=>by cases y<;>rfl
 | .nilf,y,_,_,_=>by cases y<;>rfl
 | .nili,y,_,_,_=>by cases y<;>rfl
 | .ub,y,_,_,_=>by cases y<;>rfl
 | .rv _ _ _ _,y,_,_,_=>by cases y<;>rfl
 | .mv _ _,y,_,_,_=>by cases y<;>rfl
theorem neL_rvc:∀(xs ys:List AV) (B o:Nat),RVc I θ w xs B o->RVc J η w ys B o->neL xs ys=false
 | [],ys,_,_,_,_=>by cases ys<;>rfl
 | x::xs,[],_,_,_,_=>rfl
 | x::xs,y::ys,B,o,h,k=>by
  simp only[RVc]at h k
  obtain⟨⟨_,v,h1,_,h2⟩,h3⟩:=h;obtain⟨⟨_,v',k1,_,k2⟩,k3⟩:=k
  rw[h1]at k1;obtain rfl:=Option.some.inj k1
  simp only[neL,neB_rv x y v h2 k2,neL_rvc xs ys B _ h3 k3,Bool.or_self]
theorem neE_rve:∀(xs ys:List (List AV)) (B o:Nat),RVe I θ w xs B o->RVe J η w ys B o->neE xs ys=false
 | [],ys,_,_,_,_=>by cases ys<;>rfl
 | x::xs,[],_,_,_,_=>rfl
 | x::xs,y::ys,B,o,h,k=>by
  simp only[RVe]at h k
  simp only[neE]
  by_cases e:x.length=y.length
  ·rw[neL_rvc x y B o h.1 k.1,neE_rve xs ys B _ h.2 (e ▸ k.2)];simp
  ·simp[e]
end
end
def ptr1(P:Program)(t:TypeId):Bool:=match P.underlying t with
 | some (.pointer e)=>match P.info? e with
  | some j=>j.size != 0
  | none=>false
 | _=>false
def ptrFs(P:Program):Nat->List Field->Bool
 | _,[]=>true
 | n, f :: fs => f.name != "_" && f.offset == n && ptr1 P f.type && ptrFs P (n + 1) fs
theorem run_eqP{P:Program}{I:Addr->Prop}{θ:Nat->Option Value}{w:World}{t:TypeId}(ht:ptr1 P t=true){x y:AV}{v u:Value}(hx:RV I θ w x v)(hy:RV I θ w y u){r:Option Bool}(hr:eqP x y=some r)(d:Nat) :
  ∃ b,(Op.equalIn (d+1) t v u).run P w=.ok b w/\(∀ c,r=some c->b=c):=by
 unfold ptr1 at ht
 split at ht
 ·rename_i e hu
  split at ht
  ·rename_i j hj
   have hsz:j.size≠0:=by simpa using ht
   cases x<;>cases y<;>simp only[eqP,reduceCtorEq,Option.some.injEq]at hr
   case nilp.nilp=>subst hr;simp only[RV]at hx hy;subst hx;subst hy;exact⟨true,by simp[Op.equalIn,run_underlying hu],by simp⟩
   case nilp.ip p cs=>subst hr;simp only[RV]at hx hy;obtain⟨_,B,o,rfl,_⟩:=hy;subst hx;exact⟨false,by simp[Op.equalIn,run_underlying hu],by simp⟩
   case ip.nilp p cs=>subst hr;simp only[RV]at hx hy;obtain⟨_,B,o,rfl,_⟩:=hx;subst hy;exact⟨false,by simp[Op.equalIn,run_underlying hu],by simp⟩
   case nilp.ptr r j=>subst hr;simp only[RV]at hx hy;obtain⟨B,_,rfl⟩:=hy;subst hx;exact⟨false,by simp[Op.equalIn,run_underlying hu],by simp⟩
   case ptr.nilp r j=>subst hr;simp only[RV]at hx hy;obtain⟨B,_,rfl⟩:=hx;subst hy;exact⟨false,by simp[Op.equalIn,run_underlying hu],by simp⟩
   case ip.ip p cs q ds =>
    cases p<;>cases q<;>simp only[eqP,reduceCtorEq,Option.some.injEq]at hr
    simp only[RV]at hx hy
    obtain⟨_,B,o,rfl,hc,hx⟩:=hx
    obtain⟨_,B',o',rfl,hd,hy⟩:=hy
    obtain⟨rfl,_,c1,t1,h1⟩:=hx trivial
    obtain⟨rfl,_,c2,t2,h2⟩:=hy trivial
    by_cases hB:B=B'
    ·subst hB
     refine⟨true,by simp[Op.equalIn,run_underlying hu,sizeOf,typeInfo,hj,run_sameAddr_same],?_⟩
     rw[neL_rvc cs ds B 0 hc hd]at hr
     subst hr;simp
    ·refine⟨false,?_,?_⟩
     ·have hne:(⟨B,0,none⟩:Addr)≠⟨B',0,none⟩:=by simpa using hB
      simp[Op.equalIn,run_underlying hu,sizeOf,typeInfo,hj,hsz,run_sameAddr_other w hne h1 h2]
     ·subst hr;cases neL cs ds<;>simp
  ·cases ht
 ·cases ht
theorem run_eqC{P:Program}{I:Addr->Prop}{θ:Nat->Option Value}{w:World}(d:Nat)(xs ys:Array Value):∀(fs:List Field) (n:Nat) (cs ds:List AV) (r:Option Bool),ptrFs P n fs=true->fs.length=cs.length->RVs I θ w cs (xs.toList.drop n)->RVs I θ w ds (ys.toList.drop n)->eqC cs ds=some r ->
  ∃ b,(Op.eqFields (d+1) xs ys fs).run P w=.ok b w/\(∀ c,r=some c->b=c)
 | [],n,cs,ds,r,_,hl,_,_,hr=>by
  cases cs with
  | cons c cs=>cases hl
  | nil=>cases ds<;>simp only[eqC,reduceCtorEq,Option.some.injEq]at hr;subst hr;exact⟨true,by simp[Op.eqFields],by simp⟩
 | f::fs,n,cs,ds,r,hf,hl,hx,hy,hr=>by
  cases cs with
  | nil=>cases hl
  | cons c cs =>
   cases ds with
   | nil=>simp[eqC]at hr
   | cons c' ds =>
    simp only[ptrFs,Bool.and_eq_true,bne_iff_ne,ne_eq,beq_iff_eq]at hf
    obtain⟨⟨⟨hn,ho⟩,ht⟩,hf⟩:=hf
    simp only[RVs]at hx hy
    obtain⟨v,vs,e1,h1,h2⟩:=hx
    obtain⟨u,us,e2,k1,k2⟩:=hy
    have g1:xs[n]? = some v:=by have:=congrArg (·[0]?) e1;simpa using this
    have g2:ys[n]? = some u:=by have:=congrArg (·[0]?) e2;simpa using this
    have d1:vs=xs.toList.drop (n+1):=by have:=congrArg (List.drop 1) e1;simpa using this.symm
    have d2:us=ys.toList.drop (n+1):=by have:=congrArg (List.drop 1) e2;simpa using this.symm
    simp only[eqC,Option.bind_eq_some_iff,Option.map_eq_some_iff]at hr
    obtain⟨r1,q1,r2,q2,hr⟩:=hr
    obtain⟨b1,p1,p2⟩:=run_eqP (w:=w) ht h1 k1 q1 d
    obtain⟨b2,p3,p4⟩:=run_eqC d xs ys fs (n+1) cs ds r2 hf (by simpa using hl) (d1 ▸ h2) (d2 ▸ k2) q2
    have hagg:(isAgg f.type).run P w=.ok false w:=by
     unfold ptr1 at ht
     split at ht
     ·rename_i e hu;simp[isAgg,run_underlying hu]
     ·cases ht
    refine⟨b1 && b2,?_,?_⟩
    ·simp only[Op.eqFields,ne_eq,hn,not_false_eq_true,if_true,Sem.run_bind,part,hagg,Result.andThen_ok,ho,g1,g2,Sem.run_pure,Bool.false_eq_true,if_false,p1]
     cases b1<;>simp[p3]
    ·intro x hx
     subst hx
     rcases r1 with _|_|_<;>rcases r2 with _|_|_<;>simp at hr p2 p4<;>simp_all
def eqFs(P:Program):Nat->List Nat->List Field->Bool
 | _,[],[]=>true
 | n, k :: ks, f :: fs => f.name != "_" && f.offset == n && (match P.underlying f.type with
  | some (.int _)=>k == 0
  | some .bool=>k == 1
  | some .string=>k == 2
  | _=>false) && eqFs P (n+1) ks fs
 | _,_,_=>false
def eqfOk(P:Program)(t:TypeId)(ks:List Nat):Bool:=match P.underlying t with
 | some (.struct fs)=>eqFs P 0 ks fs.toList && !P.stoodInHeld t && !P.eqGuardType P.depth t
 | _=>false
theorem beqB(a b:ByteArray):(a == b)=(a.data.toList == b.data.toList):=by
 show(a.data == b.data)=_
 rw[Bool.eq_iff_iff,beq_iff_eq,beq_iff_eq]
 exact⟨fun h=>h ▸ rfl,fun h=>Array.toList_inj.1 h⟩
theorem run_eqD{P:Program}{I:Addr->Prop}{θ:Nat->Option Value}{w:World}(d:Nat)(xs ys:Array Value):∀(fs:List Field) (ks:List Nat) (n:Nat) (cs ds:List AV) (r:Bool),eqFs P n ks fs=true->RVs I θ w cs (xs.toList.drop n)->RVs I θ w ds (ys.toList.drop n)->eqD ks cs ds=some r ->
  (Op.eqFields (d+1) xs ys fs).run P w=.ok r w
 | [],ks,n,cs,ds,r,hf,_,_,hr=>by
  cases ks with
  | cons _ _=>cases hf
  | nil=>cases cs<;>cases ds<;>simp only[eqD,reduceCtorEq,Option.some.injEq]at hr;subst hr;simp[Op.eqFields]
 | f::fs,ks,n,cs,ds,r,hf,hx,hy,hr=>by
  cases ks with
  | nil=>cases hf
  | cons k ks =>
  cases cs with
  | nil=>simp[eqD]at hr
  | cons c cs =>
   cases ds with
   | nil=>simp[eqD]at hr
   | cons c' ds =>
    simp only[eqFs,Bool.and_eq_true,bne_iff_ne,ne_eq,beq_iff_eq]at hf
    obtain⟨⟨⟨hn,ho⟩,ht⟩,hf⟩:=hf
    simp only[RVs]at hx hy
    obtain⟨v,vs,e1,h1,h2⟩:=hx
    obtain⟨u,us,e2,k1,k2⟩:=hy
    have g1:xs[n]? = some v:=by have:=congrArg (·[0]?) e1;simpa using this
    have g2:ys[n]? = some u:=by have:=congrArg (·[0]?) e2;simpa using this
    have d1:vs=xs.toList.drop (n+1):=by have:=congrArg (List.drop 1) e1;simpa using this.symm
    have d2:us=ys.toList.drop (n+1):=by have:=congrArg (List.drop 1) e2;simpa using this.symm
    simp only[eqD]at hr
    split at hr
    ·rename_i r1 q1
     split at hr
     ·rename_i r2 q2
      obtain rfl:=Option.some.inj hr
      have p2:=run_eqD (I:=I) (θ:=θ) (w:=w) d xs ys fs ks (n+1) cs ds r2 hf (d1 ▸ h2) (d2 ▸ k2) q2
      have key:(isAgg f.type).run P w=.ok false w/\(Op.equalIn (d+1) f.type v u).run P w=.ok r1 w:=by
       unfold eqV at q1
       split at q1
       ·simp only[RV]at h1 k1
        split at q1
        ·rename_i hkk;subst hkk
         obtain rfl:=Option.some.inj q1
         split at ht<;>rename_i hu<;>simp at ht
         exact⟨by simp[isAgg,run_underlying hu],by rw[h1.1,k1.1];simp[Op.equalIn,run_underlying hu,BEq.beq]⟩
        ·cases q1
       ·simp only[RV]at h1 k1
        obtain rfl:=Option.some.inj q1
        split at ht<;>rename_i hu<;>simp at ht
        exact⟨by simp[isAgg,run_underlying hu],by rw[h1,k1];simp[Op.equalIn,run_underlying hu]⟩
       ·simp only[RV]at h1 k1
        obtain rfl:=Option.some.inj q1
        split at ht<;>rename_i hu<;>simp at ht
        refine⟨by simp[isAgg,run_underlying hu],?_⟩
        rw[h1.1,k1.1]
        simp only[Op.equalIn,Sem.run_bind,run_underlying hu,Result.andThen_ok,Sem.run_pure]
        congr 1
        rw[<-bytes_eq,ByteArray.toList_eq,ByteArray.toList_eq]
        exact beqB _ _
       ·cases q1
      simp only[Op.eqFields,ne_eq,hn,not_false_eq_true,if_true,Sem.run_bind,part,key.1,Result.andThen_ok,ho,g1,g2,Sem.run_pure,Bool.false_eq_true,if_false,key.2]
      cases r1<;>simp[p2]
     ·cases hr
    ·cases hr
def eqsOk(P:Program)(t:TypeId)(n:Nat):Bool:=match P.underlying t with
 | some (.struct fs)=>fs.size == n && ptrFs P 0 fs.toList && !P.stoodInHeld t && !P.eqGuardType P.depth t
 | _=>false
section
variable {P:Program} {Γ : Ctx} {I:Addr->Prop} {θ:Nat->Option Value} {w:World} {H:List AB} {ρ:Opd->AV} {ev:Operand->Value} {o:Oper} {y:AV}
theorem ansB_rv{ng b:Bool}{r:Option Bool}(h:∀ c,r=some c->b=c):RV I θ w (ansB ng r) (.bool (ng ^^ b)):=by
 cases r with
 | none=>simp[ansB,RV]
 | some c=>rw[h c rfl];simp[ansB,RV]
theorem ok_eqp{t yt:TypeId}{ng:Bool}{x z:Operand}{x' z':Opd}(ho:o.op=.binOp (bif ng then .neq else .eql) t x z yt)(ht:ptr1 P t=true)(S:Sim Γ I θ H w)
  (hx:RV I θ w (ρ x') (ev x)) (hz:RV I θ w (ρ z') (ev z)) (hy:ov ρ H (.eqp ng x' z')=some y):Gives P Γ I θ H w ev o y:=by
 simp only[ov,Option.map_eq_some_iff]at hy
 obtain⟨r,hr,rfl⟩:=hy
 obtain⟨b,h1,h2⟩:=run_eqP (w:=w) ht hx hz hr 9999
 have h3:(Op.equal t (ev x) (ev z)).run P w=.ok b w:=h1
 have hv:∀(q:AV) (v:Value),RV I θ w q v->(q=.nilp\/(∃ p cs,q=.ip p cs)\/∃ r j,q=.ptr r j)->∃ a,v=.pointer a:=by
  intro q v hq hh
  rcases hh with rfl|⟨p,cs,rfl⟩|⟨r,j,rfl⟩<;>simp only[RV]at hq
  ·exact⟨_,hq⟩
  ·obtain⟨_,B,o,e,_⟩:=hq;exact⟨_,e⟩
  ·obtain⟨B,_,e⟩:=hq;exact⟨_,e⟩
 have hh:(ρ x'=.nilp\/(∃ p cs,ρ x'=.ip p cs)\/∃ r j,ρ x'=.ptr r j)/\(ρ z'=.nilp\/(∃ p cs,ρ z'=.ip p cs)\/∃ r j,ρ z'=.ptr r j):=by
  cases hq1:ρ x'<;>cases hq2:ρ z'<;>rw[hq1,hq2]at hr<;>simp only[eqP,reduceCtorEq]at hr<;>simp
 obtain⟨a,ea⟩:=hv _ _ hx hh.1
 obtain⟨c,ec⟩:=hv _ _ hz hh.2
 rw[ea,ec]at h3
 refine gives_same S ?_ (ansB_rv (ng:=ng) h2)
 cases ng<;>simp only[cond_true,cond_false]at ho<;>simp[execOp,ho,ea,ec,eqGuard,binOp,h3]
theorem ok_eqs{t yt:TypeId}{ng:Bool}{x z:Operand}{x' z':Opd}(ho:o.op=.binOp (bif ng then .neq else .eql) t x z yt){n:Nat}(ht:eqsOk P t n=true)(S:Sim Γ I θ H w)
  (hx:RV I θ w (ρ x') (ev x)) (hz:RV I θ w (ρ z') (ev z)) (hy:ov ρ H (.eqs ng n x' z')=some y):Gives P Γ I θ H w ev o y:=by
 simp only[ov]at hy
 split at hy
 ·rename_i cs ds hq hj
  rw[hq]at hx;rw[hj]at hz
  cases hn:Nat.beq cs.length n<;>rw[hn]at hy
  ·cases hy
  have hn:=Nat.eq_of_beq_eq_true hn
  simp only[cond_true,Option.map_eq_some_iff]at hy
  obtain⟨r,hr,rfl⟩:=hy
  simp only[RV]at hx hz
  obtain⟨vs,ex,_,hx⟩:=hx
  obtain⟨us,ez,_,hz⟩:=hz
  unfold eqsOk at ht
  split at ht
  ·rename_i fs hu
   simp only[Bool.and_eq_true,Bool.not_eq_true',beq_iff_eq]at ht
   obtain⟨⟨⟨hsz,ht⟩,hs⟩,hg⟩:=ht
   have hfs:P.fieldsOf t=fs:=by simp[Program.fieldsOf,hu]
   obtain⟨b,h1,h2⟩:=run_eqC (P:=P) (w:=w) 9998 vs.toArray us.toArray fs.toList 0 cs ds r ht (by rw[hn,<-hsz];simp) (by simpa using hx) (by simpa using hz) hr
   have h3:(Op.equal t (.agg vs.toArray) (.agg us.toArray)).run P w=.ok b w:=by
    show(Op.equalIn (9999+1) t _ _).run P w=_
    rw[run_equalIn_struct w 9999 t _ _ (by rw[hfs];exact hu) hs,hfs];exact h1
   refine gives_same S ?_ (ansB_rv (ng:=ng) h2)
   cases ng<;>simp only[cond_true,cond_false]at ho<;>simp[execOp,ho,ex,ez,run_eqGuard_agg,hg,binOp,h3]
  ·cases ht
 ·cases hy
theorem ok_eqf{t yt:TypeId}{ng:Bool}{x z:Operand}{x' z':Opd}(ho:o.op=.binOp (bif ng then .neq else .eql) t x z yt){ks:List Nat}(ht:eqfOk P t ks=true)(S:Sim Γ I θ H w)
  (hx:RV I θ w (ρ x') (ev x)) (hz:RV I θ w (ρ z') (ev z)) (hy:ov ρ H (.eqf ng ks x' z')=some y):Gives P Γ I θ H w ev o y:=by
 simp only[ov]at hy
 split at hy
 ·rename_i cs ds hq hj
  rw[hq]at hx;rw[hj]at hz
  obtain⟨r,hr,rfl⟩:=Option.map_eq_some_iff.1 hy
  simp only[RV]at hx hz
  obtain⟨vs,ex,_,hx⟩:=hx
  obtain⟨us,ez,_,hz⟩:=hz
  unfold eqfOk at ht
  split at ht
  ·rename_i fs hu
   simp only[Bool.and_eq_true,Bool.not_eq_true']at ht
   obtain⟨⟨ht,hs⟩,hg⟩:=ht
   have hfs:P.fieldsOf t=fs:=by simp[Program.fieldsOf,hu]
   have h1:=run_eqD (P:=P) (w:=w) 9998 vs.toArray us.toArray fs.toList ks 0 cs ds r ht (by simpa using hx) (by simpa using hz) hr
   have h3:(Op.equal t (.agg vs.toArray) (.agg us.toArray)).run P w=.ok r w:=by
    show(Op.equalIn (9999+1) t _ _).run P w=_
    rw[run_equalIn_struct w 9999 t _ _ (by rw[hfs];exact hu) hs,hfs];exact h1
   refine gives_same S ?_ (show RV I θ w (.b (ng ^^ r)) (.bool (ng ^^ r))from by simp only[RV])
   cases ng<;>simp only[cond_true,cond_false]at ho<;>simp[execOp,ho,ex,ez,run_eqGuard_agg,hg,binOp,h3]
  ·cases ht
 ·cases hy
theorem ok_shr{t yt:TypeId}{yk:IntKind}{x:Operand}{x':Opd}(ho:o.op=.binOp .shr t x (.const (.int yk 1)) yt)(S:Sim Γ I θ H w)(hc:ev (.const (.int yk 1))=.int yk 1)
  (hx:RV I θ w (ρ x') (ev x)) (hy:ov ρ H (.shr x')=some y):Gives P Γ I θ H w ev o y:=by
 simp only[ov]at hy
 split at hy
 ·rename_i k a hq
  rw[hq]at hx
  obtain rfl:=Option.some.inj hy
  simp only[RV]at hx
  have hb:min 1 k.bits=1:=by cases k<;>simp[IntKind.bits]
  have hm:k.min<=0/\0<=k.max:=by cases k<;>simp[IntKind.min,IntKind.max,IntKind.signed,IntKind.bits]
  have hd:a.fdiv 2=a / 2:=Int.fdiv_eq_ediv_of_nonneg _ (by decide)
  refine gives_same S (v:=.int k (a / 2)) ?_ (by simp only[RV,true_and];omega)
  simp[execOp,ho,hc,hx.1,eqGuard,binOp,Op.shift,hb,hd]
 ·cases hy
theorem ok_capn{t e:TypeId}{x:Operand}{x':Opd}(ho:o.op=.call { callee:=.builtin .cap,args:=#[x],argTypes:=#[t] })(hu:P.underlying t=some (.slice e))(S:Sim Γ I θ H w)(hx:RV I θ w (ρ x') (ev x))(hy:ov ρ H (.capn x')=some y):Gives P Γ I θ H w ev o y:=by
 simp only[ov]at hy
 split at hy
 ·rename_i hq
  obtain rfl:=Option.some.inj hy
  rw[hq]at hx;simp only[RV]at hx
  refine gives_same S (v:=.int .i64 0) ?_ (by simp[RV,IntKind.min,IntKind.max,IntKind.signed,IntKind.bits])
  simp[execOp,ho,resolve,invoke,builtin,Builtin.cap_,run_underlying hu,hx,goInt]
 ·cases hy
theorem ok_sln{t e:TypeId}{x hi:Operand}{x' hi':Opd}(ho:o.op=.slice t x none (some hi) none)(hu:P.underlying t=some (.slice e))(hn:(szOf P e).isSome=true)(S:Sim Γ I θ H w)(hx:RV I θ w (ρ x') (ev x))(hh:RV I θ w (ρ hi') (ev hi))(hy:ov ρ H (.sln x' hi')=some y):Gives P Γ I θ H w ev o y:=by
 simp only[ov]at hy
 split at hy
 ·rename_i k n hq hj
  rw[hq]at hx;rw[hj]at hh;simp only[RV]at hx hh
  obtain⟨m,hm⟩:=Option.isSome_iff_exists.1 hn
  split at hy
  ·rename_i h0
   subst h0
   obtain rfl:=Option.some.inj hy
   refine gives_same S (v:=.slice none 0 0) ?_ (by simp[RV])
   simp[execOp,ho,hx,hh.1,Instr.sliceAt,run_underlying hu,Instr.slice,Instr.sliceBounds,Instr.sliceBound,asIntOf,run_sizeOf hm]
  ·cases hy
 ·cases hy
end
end Go.Ab
