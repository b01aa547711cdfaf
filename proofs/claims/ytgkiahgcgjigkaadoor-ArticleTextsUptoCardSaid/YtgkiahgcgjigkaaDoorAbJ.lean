/- A part of the proof: AbJ. -/
import Derived.Test.YtgkiahgcgjigkaaDoorAbY
set_option linter.all false
set_option linter.unusedVariables false
namespace Go.Ab
open Go.RowKit
def callB(o:Oper):Option (Builtin×List Operand×List TypeId):=
 match o.op with
 | .call c=>match c.callee with
  | .builtin b=>some (b,c.args.toList,c.argTypes.toList)
  | _=>none
 | _=>none
theorem callB_eq{o:Oper}{b:Builtin}{xs:List Operand}{ts:List TypeId}(h:callB o=some (b,xs,ts)):o.op=.call { callee:=.builtin b,args:=xs.toArray,argTypes:=ts.toArray }:=by
 unfold callB at h
 split at h
 ·rename_i c hc
  split at h
  ·rename_i b' hb
   simp only[Option.some.injEq,Prod.mk.injEq]at h
   obtain⟨rfl,rfl,rfl⟩:=h
   rw[hc]
   cases c
   simp_all
  ·cases h
 ·cases h
def opOk(P:Program)(o:Oper):K->Bool
 | .mv y=>match o.op with
  | .move x=>opdOk x y
  | .assign x=>opdOk x y
  | _=>false
 | .bx y=>match o.op with
  | .box _ x=>opdOk x y
  | _=>false
 | .bxm t' y=>match o.op with
  | .box t x=>t == t' && opdOk x y
  | _=>false
 | .alm t' cs=>match o.op with
  | .alloc t=>t == t' && zeroOk P t cs
  | _=>false
 | .bld zero qs=>match o.op with
  | .build t parts=>match P.underlying t with
   | some (.struct fs)=>zeroOk P t zero && (match places P fs with
    | some pl=>partsOk pl parts.toList qs
    | none=>false)
   | _=>false
  | _=>false
 | .bsl sz xs=>match o.op with
  | .buildSlice t len parts=>match P.underlying t with
   | some (.slice e)=>match P.info? e with
    | some ie=>ie.zero.isSome && ie.size == sz && decide (0<sz) && len == xs.length && decide (0<xs.length) && decide (xs.length * sz<=65536) && litOk 0 parts.toList xs
    | none=>false
   | _=>false
  | _=>false
 | .ld y n g=>match o.op with
  | .load t x=>opdOk x y && ldOk P t n g
  | _=>false
 | .st y n z=>match o.op with
  | .store t x v=>o.dst == none && szOf P t == some n && opdOk x y && opdOk v z
  | _=>false
 | .stb y n z=>match o.op with
  | .store t x v=>o.dst == none && szOf P t == some n && opdOk x y && opdOk v z
  | _=>false
 | .ste y n z=>match o.op with
  | .store t x v=>o.dst == none && szOf P t == some n && opdOk x y && opdOk v z
  | _=>false
 | .fa y off=>match o.op with
  | .fieldAddr t x f=>match P.underlying t with
   | some (.struct fs)=>match fs[f]? with
    | some fd=>fd.offset == off && (match szOf P fd.type with
     | some n=>n != 0
     | none=>false) && opdOk x y
    | none=>false
   | _=>false
  | _=>false
 | .fld y off n g=>match o.op with
  | .field t x f=>match P.underlying t with
   | some (.struct fs)=>match fs[f]? with
    | some fd=>fd.offset == off && ldOk P fd.type n g && opdOk x y
    | none=>false
   | _=>false
  | _=>false
 | .ia sz y j=>match o.op with
  | .indexAddr t x i=>match P.underlying t with
   | some (.slice e)=>szOf P e == some sz && opdOk x y && opdOk i j
   | _=>false
  | _=>false
 | .ix y j=>match o.op with
  | .index t x i=>(match P.underlying t with
   | some .string=>true
   | _=>false) && opdOk x y && opdOk i j
  | _=>false
 | .nc y=>match o.op with
  | .nilCheck x=>opdOk x y
  | _=>false
 | .bi op y z=>match o.op with
  | .binOp op' t x v _=>op == op' && biOk P t && opdOk x y && opdOk v z
  | _=>false
 | .bib op y z=>match o.op with
  | .binOp op' t x v _=>op == op' && (match P.underlying t with
   | some .bool=>true
   | _=>false) && opdOk x y && opdOk v z
  | _=>false
 | .un op y=>match o.op with
  | .unOp op' _ x=>op == op' && opdOk x y
  | _=>false
 | .cvb y=>match o.op with
  | .convert src dst x=>(match P.underlying src with
   | some (.slice e)=>(match P.underlying e with
    | some (.int .u8)=>true
    | _=>false)
   | _=>false) && (match P.underlying dst with
   | some .string=>true
   | _=>false) && opdOk x y
  | _=>false
 | .eqf ng ks y z=>match o.op with
  | .binOp op t x v _=>op == (bif ng then .neq else .eql) && eqfOk P t ks && opdOk x y && opdOk v z
  | _=>false
 | .cvr y=>match o.op with
  | .convert src dst x=>(P.underlying src).isSome && (match P.underlying dst with
   | some .string=>true
   | _=>false) && opdOk x y
  | _=>false
 | .cvi k y=>match o.op with
  | .convert src dst x=>(P.underlying src).isSome && (match P.underlying dst with
   | some (.int k')=>k == k'
   | _=>false) && opdOk x y
  | _=>false
 | .mks e' sz zero y=>match o.op with
  | .makeSlice t l c=>match P.underlying t with
   | some (.slice e)=>match P.info? e with
    | some ie=>e == e' && ie.size == sz && decide (0<sz) && decide (ie.bytes * LIM<=281474976710656) && opdOk l y && opdOk c y && (match ie.zero with
     | some z=>z.cells.size == sz && constL z.cells.toList zero
     | none=>false)
    | none=>false
   | _=>false
  | _=>false
 | .slc sz y lo' hi' mx'=>match o.op with
  | .slice t x lo hi mx=>match P.underlying t with
   | some (.slice e)=>szOf P e == some sz && opdOk x y && bndOk lo lo' && bndOk hi hi' && bndOk mx mx' && (!mx'.isSome || hi'.isSome)
   | _=>false
  | _=>false
 | .slcs y lo' hi'=>match o.op with
  | .slice t x lo hi none=>(match P.underlying t with
   | some .string=>true
   | _=>false) && opdOk x y && bndOk lo lo' && bndOk hi hi'
  | _=>false
 | .len y=>match callB o with
  | some (.len,[x],[t])=>(match P.underlying t with
   | some (.slice _)=>true
   | _=>false) && opdOk x y
  | _=>false
 | .lens y=>match callB o with
  | some (.len,[x],[t])=>(match P.underlying t with
   | some .string=>true
   | _=>false) && opdOk x y
  | _=>false
 | .app e' sz y z=>match callB o with
  | some (.append,[x,v],[t,t'])=>t == t' && (match P.underlying t with
   | some (.slice e)=>match P.info? e with
    | some ie=>e == e' && ie.size == sz && decide (0<sz) && decide (ie.bytes * LIM<=140737488355328) && opdOk x y && opdOk v z && (match ie.zero with
     | some zv=>zv.cells.size == sz
     | none=>false)
    | none=>false
   | _=>false)
  | _=>false
 | .apt e' sz y z=>match callB o with
  | some (.append,[x,v],[t,t'])=>t == t' && (match P.underlying t with
   | some (.slice e)=>match P.info? e with
    | some ie=>e == e' && ie.size == sz && decide (0<sz) && decide (ie.bytes * LIM<=140737488355328) && opdOk x y && opdOk v z && (match ie.zero with
     | some zv=>zv.cells.size == sz
     | none=>false)
    | none=>false
   | _=>false)
  | _=>false
 | .mx y z=>match callB o with
  | some (.max,[x,v],_)=>opdOk x y && opdOk v z
  | _=>false
 | .mn y z=>match callB o with
  | some (.min,[x,v],_)=>opdOk x y && opdOk v z
  | _=>false
 | .ext y n=>match o.op with
  | .extract x n'=>n == n' && opdOk x y
  | _=>false
 | .mkf f a' b'=>match o.op with
  | .makeFunc f' a b=>f == f' && opdsOk a.toList a' && opdsOk b.toList b'
  | _=>false
 | .ldi y n g=>match o.op with
  | .load t x=>opdOk x y && ldOk P t n g
  | _=>false
 | .pk c y z=>match o.op with
  | .pick x a b=>opdOk x c && opdOk a y && opdOk b z
  | _=>false
 | .eqn ng y=>match o.op with
  | .binOp op t x (.const (.slice none 0 0)) _=>op == (bif ng then .neq else .eql) && (match P.underlying t with
   | some (.slice _)=>true
   | _=>false) && opdOk x y
  | _=>false
 | .rsl sz y lo' hi' mx'=>match o.op with
  | .slice t x lo hi mx=>match P.underlying t with
   | some (.slice e)=>szOf P e == some sz && opdOk x y && bndOk lo lo' && bndOk hi hi' && bndOk mx mx' && (!mx'.isSome || hi'.isSome)
   | _=>false
  | _=>false
 | .stuck=>match o.op with
  | .makeInterface _ _=>true
  | .panic _=>true
  | _=>false
 | .eqp ng y z=>match o.op with
  | .binOp op t x v _=>op == (bif ng then .neq else .eql) && ptr1 P t && opdOk x y && opdOk v z
  | _=>false
 | .eqs ng n y z=>match o.op with
  | .binOp op t x v _=>op == (bif ng then .neq else .eql) && eqsOk P t n && opdOk x y && opdOk v z
  | _=>false
 | .ldd y n g _=>match o.op with
  | .load t x=>opdOk x y && ldOk P t n g
  | _=>false
 | .shr y=>match o.op with
  | .binOp .shr t x (.const (.int yk 1)) _=>opdOk x y
  | _=>false
 | .capn y=>match callB o with
  | some (.cap,[x],[t])=>(match P.underlying t with
   | some (.slice _)=>true
   | _=>false) && opdOk x y
  | _=>false
 | .sln y z=>match o.op with
  | .slice t x none (some hi) none=>(match P.underlying t with
   | some (.slice e)=>(szOf P e).isSome
   | _=>false) && opdOk x y && opdOk hi z
  | _=>false
 | .apz e' sz zero y z=>match callB o with
  | some (.append,[x,v],[t,t'])=>(match P.underlying t' with
   | some (.int _)=>true
   | _=>false) && (match P.underlying t with
   | some (.slice e)=>match P.info? e with
    | some ie=>e == e' && ie.size == sz && decide (0<sz) && decide (ie.bytes * LIM<=281474976710656) && opdOk x y && opdOk v z && (match ie.zero with
     | some z=>z.cells.size == sz && constL z.cells.toList zero
     | none=>false)
    | none=>false
   | _=>false)
  | _=>false
 | .mkc e' sz y=>match o.op with
  | .makeSlice t (.const (.int .i64 0)) c=>match P.underlying t with
   | some (.slice e)=>match P.info? e with
    | some ie=>e == e' && ie.size == sz && decide (0<sz) && decide (ie.bytes * LIM<=281474976710656) && opdOk c y && ie.zero.isSome
    | none=>false
   | _=>false
  | _=>false
 | .mkm q=>match o.op with
  | .makeMap t none=>mapT P t q
  | _=>false
 | .mup q m k v=>match o.op with
  | .mapUpdate t x y z=>o.dst == none && mapT P t q && opdOk x m && opdOk y k && opdOk z v
  | _=>false
 | .mlk q z ok m k=>match o.op with
  | .lookup t x y c=>c == ok && (match P.underlying t with
   | some (.map kt e)=>keyT P kt q && zero1 P e z
   | _=>false) && opdOk x m && opdOk y k
  | _=>false
 | .mln m=>match callB o with
  | some (.len,[x],[t])=>(match P.underlying t with
   | some (.map _ _)=>true
   | _=>false) && opdOk x m
  | _=>false
 | .bsr e' sz=>match o.op with
  | .buildSlice t 0 ps=>ps.isEmpty && decide (0<sz) && (match P.underlying t with
   | some (.slice e)=>e == e' && (P.info? e).isSome
   | _=>false)
  | _=>false
 | .clr sz zero y=>match callB o with
  | some (.clear,[x],[t])=>(match P.underlying t with
   | some (.slice e)=>match P.info? e with
    | some ie=>decide (0<sz) && opdOk x y && (match ie.zero with
     | some z=>z.cells.size == sz && constL z.cells.toList zero
     | none=>false)
    | none=>false
   | _=>false)
  | _=>false
 | .apv e' sz y z=>match callB o with
  | some (.append,[x,v],[t,t'])=>t == t' && (match P.underlying t with
   | some (.slice e)=>match P.info? e with
    | some ie=>e == e' && ie.size == sz && opdOk x y && opdOk v z
    | none=>false
   | _=>false)
  | _=>false
section
variable {P:Program} {Γ : Ctx} {I:Addr->Prop} {θ:Nat->Option Value} {w:World} {st st':AS} {a:Act} {o:Oper}
theorem ov_sound{k:K}{y:AV}(hq:quietK k=true)(hk:opOk P o k=true)(S:Sim Γ I θ st.H w)(hR:Rel I θ w st.T a)(hy:ov st.ev st.H k=some y):Gives P Γ I θ st.H w a.eval o y:=by
 have hρ:∀ x x',opdOk x x'=true->RV I θ w (st.ev x') (a.eval x):=fun x x' h=>opd_rv hR h
 cases k<;>simp only[quietK,Bool.false_eq_true]at hq<;>simp only[opOk]at hk
 case mv =>
  split at hk
  ·rename_i ho;exact ok_mv (.inl ho) S (hρ _ _ hk) hy
  ·rename_i ho;exact ok_mv (.inr ho) S (hρ _ _ hk) hy
  ·cases hk
 case bx =>
  split at hk
  ·rename_i ho;exact ok_bx ho S (hρ _ _ hk) hy
  ·cases hk
 case bld =>
  split at hk
  ·rename_i ho
   split at hk
   ·rename_i hu
    simp only[Bool.and_eq_true]at hk
    obtain⟨h1,h2⟩:=hk
    split at h2
    ·rename_i hpl;exact ok_bld ho hu h1 hpl h2 S hρ hy
    ·cases h2
   ·cases hk
  ·cases hk
 case bsl =>
  split at hk
  ·rename_i ho
   split at hk
   ·rename_i hu
    split at hk
    ·rename_i hie
     simp only[Bool.and_eq_true,beq_iff_eq,decide_eq_true_eq]at hk
     obtain⟨⟨⟨⟨⟨⟨h1,h2⟩,h3⟩,h4⟩,h5⟩,h6⟩,h7⟩:=hk
     obtain⟨z,hz⟩:=Option.isSome_iff_exists.1 h1
     exact ok_bsl ho hu hie hz h2 h3 h4 h5 h6 h7 S hρ hy
    ·cases hk
   ·cases hk
  ·cases hk
 case ld =>
  split at hk
  ·rename_i ho
   simp only[Bool.and_eq_true]at hk
   exact ok_ld ho hk.2 S (hρ _ _ hk.1) hy
  ·cases hk
 case fa =>
  split at hk
  ·rename_i ho
   split at hk
   ·rename_i hu
    split at hk
    ·rename_i hf
     simp only[Bool.and_eq_true,beq_iff_eq]at hk
     obtain⟨⟨h1,h2⟩,h3⟩:=hk
     split at h2
     ·rename_i hn;exact ok_fa ho hu hf h1 hn (by simpa using h2) S (hρ _ _ h3) hy
     ·cases h2
    ·cases hk
   ·cases hk
  ·cases hk
 case fld =>
  split at hk
  ·rename_i ho
   split at hk
   ·rename_i hu
    split at hk
    ·rename_i hf
     simp only[Bool.and_eq_true,beq_iff_eq]at hk
     exact ok_fld ho hu hf hk.1.1 hk.1.2 S (hρ _ _ hk.2) hy
    ·cases hk
   ·cases hk
  ·cases hk
 case ia =>
  split at hk
  ·rename_i ho
   split at hk
   ·rename_i hu
    simp only[Bool.and_eq_true,beq_iff_eq]at hk
    exact ok_ia ho hu hk.1.1 S (hρ _ _ hk.1.2) (hρ _ _ hk.2) hy
   ·cases hk
  ·cases hk
 case ix =>
  split at hk
  ·rename_i ho
   simp only[Bool.and_eq_true]at hk
   obtain⟨⟨h1,h2⟩,h3⟩:=hk
   split at h1
   ·rename_i hu;exact ok_ix ho hu S (hρ _ _ h2) (hρ _ _ h3) hy
   ·cases h1
  ·cases hk
 case nc =>
  split at hk
  ·rename_i ho;exact ok_nc ho S (hρ _ _ hk) hy
  ·cases hk
 case bi =>
  split at hk
  ·rename_i ho
   simp only[Bool.and_eq_true,beq_iff_eq]at hk
   obtain⟨⟨⟨rfl,h1⟩,h2⟩,h3⟩:=hk
   exact ok_bi ho h1 S (hρ _ _ h2) (hρ _ _ h3) hy
  ·cases hk
 case bib =>
  split at hk
  ·rename_i ho
   simp only[Bool.and_eq_true,beq_iff_eq]at hk
   obtain⟨⟨⟨rfl,h1⟩,h2⟩,h3⟩:=hk
   split at h1
   ·rename_i hu;exact ok_bib ho hu S (hρ _ _ h2) (hρ _ _ h3) hy
   ·cases h1
  ·cases hk
 case un =>
  split at hk
  ·rename_i ho
   simp only[Bool.and_eq_true,beq_iff_eq]at hk
   obtain⟨rfl,h2⟩:=hk
   exact ok_un ho S (hρ _ _ h2) hy
  ·cases hk
 case cvb =>
  split at hk
  ·rename_i ho
   simp only[Bool.and_eq_true]at hk
   obtain⟨⟨h1,h2⟩,h3⟩:=hk
   split at h1
   ·rename_i e hs
    split at h1
    ·rename_i he
     split at h2
     ·rename_i hu;exact ok_cvb ho hs he hu S (hρ _ _ h3) hy
     ·cases h2
    ·cases h1
   ·cases h1
  ·cases hk
 case eqf =>
  split at hk
  ·rename_i ho
   simp only[Bool.and_eq_true,beq_iff_eq]at hk
   obtain⟨⟨⟨rfl,h1⟩,h2⟩,h3⟩:=hk
   exact ok_eqf ho h1 S (hρ _ _ h2) (hρ _ _ h3) hy
  ·cases hk
 case cvr =>
  split at hk
  ·rename_i ho
   simp only[Bool.and_eq_true]at hk
   obtain⟨⟨h1,h2⟩,h3⟩:=hk
   obtain⟨d,hd⟩:=Option.isSome_iff_exists.1 h1
   split at h2
   ·rename_i hu;exact ok_cvr ho hd hu S (hρ _ _ h3) hy
   ·cases h2
  ·cases hk
 case cvi =>
  split at hk
  ·rename_i ho
   simp only[Bool.and_eq_true]at hk
   obtain⟨⟨h1,h2⟩,h3⟩:=hk
   obtain⟨d,hd⟩:=Option.isSome_iff_exists.1 h1
   split at h2
   ·rename_i hu
    obtain rfl:=beq_iff_eq.1 h2
    exact ok_cvi ho hd hu S (hρ _ _ h3) hy
   ·cases h2
  ·cases hk
 case slc =>
  split at hk
  ·rename_i ho
   split at hk
   ·rename_i hu
    simp only[Bool.and_eq_true,beq_iff_eq,Bool.or_eq_true,Bool.not_eq_true']at hk
    obtain⟨⟨⟨⟨⟨h1,h2⟩,h3⟩,h4⟩,h5⟩,h6⟩:=hk
    exact ok_slc ho hu h1 h3 h4 h5 (fun h=>h6.resolve_left (by simp[h])) S hρ (hρ _ _ h2) hy
   ·cases hk
  ·cases hk
 case slcs =>
  split at hk
  ·rename_i ho
   simp only[Bool.and_eq_true]at hk
   obtain⟨⟨⟨h1,h2⟩,h3⟩,h4⟩:=hk
   split at h1
   ·rename_i hu;exact ok_slcs ho hu h3 h4 S hρ (hρ _ _ h2) hy
   ·cases h1
  ·cases hk
 case mlk =>
  split at hk
  ·rename_i ho
   simp only[Bool.and_eq_true,beq_iff_eq]at hk
   obtain⟨⟨⟨rfl,h1⟩,h2⟩,h3⟩:=hk
   split at h1
   ·rename_i hu
    simp only[Bool.and_eq_true]at h1
    exact ok_mlk ho hu h1.1 h1.2 S (hρ _ _ h2) (hρ _ _ h3) hy
   ·cases h1
  ·cases hk
 case mln =>
  split at hk
  ·rename_i ho'
   have ho:=callB_eq ho'
   simp only[Bool.and_eq_true]at hk
   obtain⟨h1,h2⟩:=hk
   split at h1
   ·rename_i hu;exact ok_mln ho hu S (hρ _ _ h2) hy
   ·cases h1
  ·cases hk
 case len =>
  split at hk
  ·rename_i ho'
   have ho:=callB_eq ho'
   simp only[Bool.and_eq_true]at hk
   obtain⟨h1,h2⟩:=hk
   split at h1
   ·rename_i hu;exact ok_len ho hu S (hρ _ _ h2) hy
   ·cases h1
  ·cases hk
 case lens =>
  split at hk
  ·rename_i ho'
   have ho:=callB_eq ho'
   simp only[Bool.and_eq_true]at hk
   obtain⟨h1,h2⟩:=hk
   split at h1
   ·rename_i hu;exact ok_lens ho hu S (hρ _ _ h2) hy
   ·cases h1
  ·cases hk
 case apt =>
  split at hk
  ·rename_i ho'
   have ho:=callB_eq ho'
   simp only[Bool.and_eq_true,beq_iff_eq]at hk
   obtain⟨rfl,hk⟩:=hk
   split at hk
   ·rename_i hu
    split at hk
    ·rename_i hie
     simp only[Bool.and_eq_true,beq_iff_eq,decide_eq_true_eq]at hk
     obtain⟨⟨⟨⟨⟨⟨rfl,h1⟩,h2⟩,h3⟩,h4⟩,h5⟩,h6⟩:=hk
     split at h6
     ·rename_i hz
      exact ok_apt ho hu hie hz h1 (by simpa using h6) h2 h3 S (hρ _ _ h4) (hρ _ _ h5) hy
     ·cases h6
    ·cases hk
   ·cases hk
  ·cases hk
 case mx =>
  split at hk
  ·rename_i ho'
   have ho:=callB_eq ho'
   simp only[Bool.and_eq_true]at hk
   exact ok_mx ho S (hρ _ _ hk.1) (hρ _ _ hk.2) hy
  ·cases hk
 case mn =>
  split at hk
  ·rename_i ho'
   have ho:=callB_eq ho'
   simp only[Bool.and_eq_true]at hk
   exact ok_mn ho S (hρ _ _ hk.1) (hρ _ _ hk.2) hy
  ·cases hk
 case ldi a n g =>
  have hy':ov st.ev st.H (.ld a n g)=some y:=by
   cases hc:st.ev a<;>simp only[ov,hc,reduceCtorEq]at hy
   rename_i cs
   cases hp:pureL cs<;>rw[hp]at hy
   ·simp at hy
   ·simp only[ov,hc];exact hy
  split at hk
  ·rename_i ho
   simp only[Bool.and_eq_true]at hk
   exact ok_ld ho hk.2 S (hρ _ _ hk.1) hy'
  ·cases hk
 case eqn =>
  split at hk
  ·rename_i ho
   simp only[Bool.and_eq_true,beq_iff_eq]at hk
   obtain⟨⟨rfl,h1⟩,h2⟩:=hk
   split at h1
   ·rename_i hu;exact ok_eqn ho hu S rfl (hρ _ _ h2) hy
   ·cases h1
  ·cases hk
 case stuck=>simp[ov]at hy
 case eqp =>
  split at hk
  ·rename_i ho
   simp only[Bool.and_eq_true,beq_iff_eq]at hk
   obtain⟨⟨⟨rfl,h1⟩,h2⟩,h3⟩:=hk
   exact ok_eqp ho h1 S (hρ _ _ h2) (hρ _ _ h3) hy
  ·cases hk
 case eqs =>
  split at hk
  ·rename_i ho
   simp only[Bool.and_eq_true,beq_iff_eq]at hk
   obtain⟨⟨⟨rfl,h1⟩,h2⟩,h3⟩:=hk
   exact ok_eqs ho h1 S (hρ _ _ h2) (hρ _ _ h3) hy
  ·cases hk
 case ldd a n g bs =>
  have hy':ov st.ev st.H (.ld a n g)=some y:=by
   cases hc:st.ev a<;>simp only[ov,hc,reduceCtorEq]at hy
   rename_i r j
   simp only[ov,hc]
   revert hy
   cases bs.all fun b=>othB r (st.ev b)<;>intro hy
   ·cases hy
   ·exact hy
  split at hk
  ·rename_i ho
   simp only[Bool.and_eq_true]at hk
   exact ok_ld ho hk.2 S (hρ _ _ hk.1) hy'
  ·cases hk
 case shr =>
  split at hk
  ·rename_i ho;exact ok_shr ho S rfl (hρ _ _ hk) hy
  ·cases hk
 case capn =>
  split at hk
  ·rename_i ho'
   have ho:=callB_eq ho'
   simp only[Bool.and_eq_true]at hk
   obtain⟨h1,h2⟩:=hk
   split at h1
   ·rename_i hu;exact ok_capn ho hu S (hρ _ _ h2) hy
   ·cases h1
  ·cases hk
 case sln =>
  split at hk
  ·rename_i ho
   simp only[Bool.and_eq_true]at hk
   obtain⟨⟨h1,h2⟩,h3⟩:=hk
   split at h1
   ·rename_i hu;exact ok_sln ho hu h1 S (hρ _ _ h2) (hρ _ _ h3) hy
   ·cases h1
  ·cases hk
 case rsl =>
  split at hk
  ·rename_i ho
   split at hk
   ·rename_i hu
    simp only[Bool.and_eq_true,beq_iff_eq,Bool.or_eq_true,Bool.not_eq_true']at hk
    obtain⟨⟨⟨⟨⟨h1,h2⟩,h3⟩,h4⟩,h5⟩,h6⟩:=hk
    exact ok_rsl ho hu h1 h3 h4 h5 (fun h=>h6.resolve_left (by simp[h])) S hρ (hρ _ _ h2) hy
   ·cases hk
  ·cases hk
 case pk =>
  split at hk
  ·rename_i ho
   simp only[Bool.and_eq_true]at hk
   exact ok_pk ho S (hρ _ _ hk.1.1) (hρ _ _ hk.1.2) (hρ _ _ hk.2) hy
  ·cases hk
 case ext =>
  split at hk
  ·rename_i ho
   simp only[Bool.and_eq_true,beq_iff_eq]at hk
   obtain⟨rfl,h2⟩:=hk
   exact ok_ext ho S (hρ _ _ h2) hy
  ·cases hk
 case mkf =>
  split at hk
  ·rename_i ho
   simp only[Bool.and_eq_true,beq_iff_eq]at hk
   obtain⟨⟨rfl,h1⟩,h2⟩:=hk
   exact ok_mkf ho h1 h2 S hρ hy
  ·cases hk
theorem sv_sound{k:K}(hk:opOk P o k=true)(S:Sim Γ I θ st.H w)(hR:Rel I θ w st.T a)(hd:∀ k,o.dst=some k->k<a.tmps.size)(hy:sv st o.dst k=some st'):Does P Γ w a o st':=by
 by_cases hq:quietK k=true
 ·have hy':(ov st.ev st.H k).map (put st o.dst)=some st':=by
   cases k<;>simp only[quietK,Bool.false_eq_true]at hq<;>simpa only[sv] using hy
  obtain⟨y,h1,rfl⟩:=Option.map_eq_some_iff.1 hy'
  exact does_quiet (ov_sound hq hk S hR h1) hR hd
 ·cases k<;>simp only[quietK,not_true_eq_false]at hq<;>simp only[opOk]at hk
  case bxm =>
   split at hk
   ·rename_i ho
    simp only[Bool.and_eq_true,beq_iff_eq]at hk
    obtain⟨rfl,h2⟩:=hk
    exact ok_bxm ho S hR hd h2 hy
   ·cases hk
  case apz =>
   split at hk
   ·rename_i ho'
    have ho:=callB_eq ho'
    simp only[Bool.and_eq_true]at hk
    obtain⟨h0,hk⟩:=hk
    split at h0
    ·rename_i hn
     split at hk
     ·rename_i hu
      split at hk
      ·rename_i hie
       simp only[Bool.and_eq_true,beq_iff_eq,decide_eq_true_eq]at hk
       obtain⟨⟨⟨⟨⟨⟨rfl,h1⟩,h2⟩,h3⟩,h4⟩,h5⟩,h6⟩:=hk
       split at h6
       ·rename_i hz
        simp only[Bool.and_eq_true,beq_iff_eq]at h6
        exact ok_apz ho hu hn hie hz h1 h6.1 h2 h3 h6.2 S hR hd h4 h5 hy
       ·cases h6
      ·cases hk
     ·cases hk
    ·cases h0
   ·cases hk
  case mkc =>
   split at hk
   ·rename_i ho
    split at hk
    ·rename_i hu
     split at hk
     ·rename_i hie
      simp only[Bool.and_eq_true,beq_iff_eq,decide_eq_true_eq]at hk
      obtain⟨⟨⟨⟨⟨rfl,h1⟩,h2⟩,h3⟩,h4⟩,h5⟩:=hk
      obtain⟨z,hz⟩:=Option.isSome_iff_exists.1 h5
      exact ok_mkc (c:=.const (.int .i64 0)) ho hu hie hz h1 h2 h3 S hR hd h4 hy
     ·cases hk
    ·cases hk
   ·cases hk
  case bsr =>
   split at hk
   ·rename_i ho
    simp only[Bool.and_eq_true,decide_eq_true_eq]at hk
    obtain⟨⟨h1,h2⟩,h3⟩:=hk
    split at h3
    ·rename_i hu
     simp only[Bool.and_eq_true,beq_iff_eq]at h3
     obtain⟨rfl,h4⟩:=h3
     obtain⟨ie,hie⟩:=Option.isSome_iff_exists.1 h4
     rename_i ps _ _
     obtain rfl:ps=#[]:=by simpa using h1
     exact ok_bsr ho hu hie h2 S hR hd hy
    ·cases h3
   ·cases hk
  case clr =>
   split at hk
   ·rename_i ho'
    have ho:=callB_eq ho'
    split at hk
    ·rename_i hu
     split at hk
     ·rename_i hie
      simp only[Bool.and_eq_true,decide_eq_true_eq]at hk
      obtain⟨⟨h1,h2⟩,h3⟩:=hk
      split at h3
      ·rename_i hz
       simp only[Bool.and_eq_true,beq_iff_eq]at h3
       exact ok_clr ho hu hie hz h3.1 h1 h3.2 S hR hd h2 hy
      ·cases h3
     ·cases hk
    ·cases hk
   ·cases hk
  case apv =>
   split at hk
   ·rename_i ho'
    have ho:=callB_eq ho'
    simp only[Bool.and_eq_true,beq_iff_eq]at hk
    obtain⟨rfl,hk⟩:=hk
    split at hk
    ·rename_i hu
     split at hk
     ·rename_i hie
      simp only[Bool.and_eq_true,beq_iff_eq]at hk
      obtain⟨⟨⟨rfl,h1⟩,h2⟩,h3⟩:=hk
      exact ok_apv ho hu hie h1 S hR hd h2 h3 hy
     ·cases hk
    ·cases hk
   ·cases hk
  case mkm =>
   split at hk
   ·rename_i ho;exact ok_mkm ho S hR hd hy
   ·cases hk
  case mup =>
   split at hk
   ·rename_i ho
    simp only[Bool.and_eq_true,beq_iff_eq]at hk
    obtain⟨⟨⟨⟨h1,h2⟩,h3⟩,h4⟩,h5⟩:=hk
    obtain⟨k,e,hu,hk'⟩:=mapT_some h2
    exact ok_mup ho h1 hu hk' S hR h3 h4 h5 hy
   ·cases hk
  case alm =>
   split at hk
   ·rename_i ho
    simp only[Bool.and_eq_true,beq_iff_eq]at hk
    obtain⟨rfl,h2⟩:=hk
    exact ok_alm ho h2 S hR hd hy
   ·cases hk
  case st =>
   split at hk
   ·rename_i ho
    simp only[Bool.and_eq_true,beq_iff_eq]at hk
    obtain⟨⟨⟨h1,h2⟩,h3⟩,h4⟩:=hk
    exact ok_st ho h1 h2 S hR h3 h4 hy
   ·cases hk
  case stb =>
   split at hk
   ·rename_i ho
    simp only[Bool.and_eq_true,beq_iff_eq]at hk
    obtain⟨⟨⟨h1,h2⟩,h3⟩,h4⟩:=hk
    exact ok_st ho h1 h2 S hR h3 h4 (stb_of hy).2
   ·cases hk
  case ste =>
   split at hk
   ·rename_i ho
    simp only[Bool.and_eq_true,beq_iff_eq]at hk
    obtain⟨⟨⟨h1,h2⟩,h3⟩,h4⟩:=hk
    exact ok_st ho h1 h2 S hR h3 h4 (ste_of hy).2
   ·cases hk
  case mks =>
   split at hk
   ·rename_i ho
    split at hk
    ·rename_i hu
     split at hk
     ·rename_i hie
      simp only[Bool.and_eq_true,beq_iff_eq,decide_eq_true_eq]at hk
      obtain⟨⟨⟨⟨⟨⟨rfl,h1⟩,h2⟩,h3⟩,h4⟩,h5⟩,h6⟩:=hk
      split at h6
      ·rename_i hz
       simp only[Bool.and_eq_true,beq_iff_eq]at h6
       exact ok_mks ho hu hie hz h1 h6.1 h2 h3 h6.2 S hR hd h4 h5 hy
      ·cases h6
     ·cases hk
    ·cases hk
   ·cases hk
  case app =>
   split at hk
   ·rename_i ho'
    have ho:=callB_eq ho'
    simp only[Bool.and_eq_true,beq_iff_eq]at hk
    obtain⟨rfl,hk⟩:=hk
    split at hk
    ·rename_i hu
     split at hk
     ·rename_i hie
      simp only[Bool.and_eq_true,beq_iff_eq,decide_eq_true_eq]at hk
      obtain⟨⟨⟨⟨⟨⟨rfl,h1⟩,h2⟩,h3⟩,h4⟩,h5⟩,h6⟩:=hk
      split at h6
      ·rename_i hz
       exact ok_app ho hu hie hz h1 (by simpa using h6) h2 h3 S hR hd h4 h5 hy
      ·cases h6
     ·cases hk
    ·cases hk
   ·cases hk
end
end Go.Ab
