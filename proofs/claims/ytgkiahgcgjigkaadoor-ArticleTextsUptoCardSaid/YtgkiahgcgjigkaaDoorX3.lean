/- A part of the proof: X3. -/
import Derived.Test.YtgkiahgcgjigkaaDoorX2
set_option linter.all false
set_option linter.all false
namespace Go.Ab.X
open Go.RowKit Go.Ab
section
variable {U:Uni} {R:Type}
def Env(U:Uni):=Nat->Nat->List (HB U)->List (N U)->Option (List (HB U)×N U)
inductive P1(U:Uni) where
 | a (d:Option Nat) (o:A U)
 | call (md:Nat) (d:Option Nat) (c:Od U) (args:List (Od U)) (as:List (Option U.T)) (rs:Sh U)
 | callg (vr:Nat) (d:Option Nat) (c:Od U) (args:List (Od U)) (sel:List Nat) (hi:List (HSh U)) (as:List (Sh U)) (ho:List (HSh U)) (rs:Sh U)
 | gd (g:Nat) (w:Bool) (d:Option Nat) (o:P1 U)
 | cn (d:Nat) (t:U.T)
 | adT (d:Nat) (tid:TypeId) (e:U.T)
 | adB (r:Nat) (p:List Nat) (tid:TypeId) (e:U.T)
 | pad
 | tr (d:Nat)
 | nl (d r:Nat)
 | perm (sel:List Nat)
 | fz (r:Nat) (t:U.T)
 | pre (p o:P1 U)
inductive TC(U:Uni) where
 | skip
 | ops (l:List (P1 U))
 | draw (l:List (P1 U))
 | draw2 (l:List (P1 U)) (i:Nat) (sel:List Nat)
 | seq (a b:TC U)
 | cond (c:Od U) (x y:TC U)
 | block (id:Nat) (c:TC U)
 | loop (sh:LSh U) (c:TC U)
 | exit (id:Nat)
 | ret
 | jn (sh:LSh U) (a b:TC U)
 | th (a:TC U) (l:List (P1 U))
 | ps (l:List (P1 U)) (a:TC U)
 | range (ts:List U.T) (it:List (N U)->Option (List (Tup U ts))) (f:Nat) (g:Od U) (ps:List Nat) (pt:List (Nat×Nat)) (ks:List Nat) (hs:List (HSh U)) (al:List (P1 U)) (c:TC U)
def P1.real:P1 U->Bool
 | .a _ _=>true
 | .call _ _ _ _ _ _=>true
 | .callg _ _ _ _ _ _ _ _ _=>true
 | .gd _ _ _ _=>true
 | .cn _ _=>false
 | .adT _ _ _=>false
 | .adB _ _ _ _=>false
 | .pad=>false
 | .tr _=>false
 | .nl _ _=>false
 | .perm _=>false
 | .fz _ _=>false
 | .pre _ _=>true
def P1.er:P1 U->SOp
 | .a d o=>.op d o.er
 | .call md d c args _ _=>bif Nat.beq md 0 then .call d c.er (args.map Od.er)else .callr d c.er (args.map Od.er)
 | .callg _ d c args sel _ _ _ _=>match sel with
  | []=>.callo d c.er (args.map Od.er)
  | _::_=>.callr d c.er (args.map Od.er)
 | .gd g w d o=>.gd g w d o.er
 | .pre _ o=>.wk o.er
 | _=>.op none (.mv (.c .u))
def erL:List (P1 U)->List SOp
 | []=>[]
 | o::l=>bif o.real then o.er::erL l else erL l
def allReal:List (P1 U)->Bool
 | []=>true
 | o::l=>o.real && allReal l
def P1.kp(ks:List Nat):P1 U->Bool
 | .a d _=>(match d with
  | some d=>!memN d ks
  | none=>true)
 | .call _ d _ _ _ _=>(match d with
  | some d=>!memN d ks
  | none=>true)
 | .callg _ d _ _ _ _ _ _ _=>(match d with
  | some d=>!memN d ks
  | none=>true)
 | .gd g _ d o=>!memN g ks && (match d with
  | some d=>!memN d ks
  | none=>true) && o.kp ks
 | .cn d _=>!memN d ks
 | .adT d _ _=>!memN d ks
 | .adB _ _ _ _=>true
 | .pad=>true
 | .tr d=>!memN d ks
 | .nl d _=>!memN d ks
 | .perm _=>true
 | .fz _ _=>true
 | .pre p o=>p.kp ks && o.kp ks
def subN:List Nat->List Nat->Bool
 | [],_=>true
 | k::l,ks=>memN k ks && subN l ks
def TC.kp(ks:List Nat):TC U->Bool
 | .skip=>true
 | .ops l=>l.all (P1.kp ks)
 | .draw l=>l.all (P1.kp ks)
 | .draw2 l _ _=>l.all (P1.kp ks)
 | .seq a b=>a.kp ks && b.kp ks
 | .cond c x y=>(match c with
  | .t g=>!memN g ks
  | .c _=>true) && x.kp ks && y.kp ks
 | .block _ c=>c.kp ks
 | .loop sh c=>subN ks sh.ks && c.kp ks
 | .exit _=>true
 | .ret=>true
 | .jn sh a b=>subN ks sh.ks && a.kp ks && b.kp ks
 | .th a l=>a.kp ks && l.all (P1.kp ks)
 | .ps l a=>l.all (P1.kp ks) && a.kp ks
 | .range _ _ _ _ _ pt ks' _ al c=>subN ks ks' && ks.all (fun k=>!memN k (pt.map (·.1))) && al.all (P1.kp []) && c.kp []
def eqNs:List Nat->List Nat->Bool
 | [],[]=>true
 | a::l,b::m=>Nat.beq a b && eqNs l m
 | [],_::_=>false
 | _::_,[]=>false
def TC.noRange:TC U->Bool
 | .skip=>true
 | .ops _=>true
 | .draw _=>true
 | .draw2 _ _ _=>true
 | .seq a b=>a.noRange && b.noRange
 | .cond _ a b=>a.noRange && b.noRange
 | .block _ c=>c.noRange
 | .loop _ c=>c.noRange
 | .exit _=>true
 | .ret=>true
 | .jn _ a b=>a.noRange && b.noRange
 | .th a _=>a.noRange
 | .ps _ a=>a.noRange
 | .range _ _ _ _ _ _ _ _ _ _=>false
def noReal:List (P1 U)->Bool
 | []=>true
 | o::l=>!o.real && noReal l
def tcOk(P:Program)(n:Nat):Code->TC U->Bool
 | c,.th x l=>noReal l && tcOk P n c x
 | c,.ps l x=>noReal l && tcOk P n c x
 | .skip,.skip=>true
 | .region _ ops dr,.ops l=>!dr && opsOk P n ops ops.toList (erL l)
 | .region _ ops dr,.draw l=>dr && allReal l && opsOk P n ops ops.toList (erL l) && drawOk ops (erL l)
 | .region _ ops dr,.draw2 l i _=>dr && allReal l && allReal (swapAt i l) && opsOk P n ops ops.toList (erL l) && drawOk2 ops (erL l) i
 | .seq a b,.seq x y=>tcOk P n a x && tcOk P n b y
 | .seq a b,.jn sh x y=>x.kp sh.ks && tcOk P n a x && tcOk P n b y
 | .cond c a b,.cond c' x y=>opdOk c c'.er && tcOk P n a x && tcOk P n b y
 | .block id c,.block id' x=>id == id' && tcOk P n c x
 | .loop c,.loop sh x=>x.kp sh.ks && tcOk P n c x
 | .exit id,.exit id'=>id == id'
 | .ret,.ret=>true
 | .rangeFunc g ps a c,.range _ _ _ g' ps' _ _ _ al x=>opdOk g g'.er && eqNs ps.toList ps' && ps'.all (fun p=>Nat.blt p n) && al.all (P1.kp []) && x.kp [] && x.noRange && (match a with
  | .region _ ops dr=>!dr && opsOk P n ops ops.toList (erL al)
  | _=>false) && tcOk P n c x
 | _,_=>false
def cvA(H:List (HB U)):List (Option U.T)->List (N U)->Option (List (N U))
 | _,[]=>some []
 | as,n::ns=>Option.bind (cvA H as.tail ns) fun l=>match as.headD none with
  | some t=>match asT H t 30 n with
   | some x=>some (.v t x::l)
   | none=>none
  | none=>bif pureN n then some (n::l)else none
def flatV(v:View U.T U.I):Bool:=match v with
 | .int _ _=>true
 | .bool _=>true
 | .str _=>true
 | _=>false
mutual
def flatN:N U->Bool
 | .v t x=>flatV (U.vw t x)
 | .tup vs=>flatNs vs
 | .nilp=>true
 | .nilf=>true
 | .nili=>true
 | .tl _ _=>false
 | .ns _=>false
 | .ag _ _=>false
 | .row _=>false
 | .ptr _ _ _=>false
 | .rptr _ _ _ _ _=>false
 | .ip _ _ _=>false
 | .fn _ _ _=>false
 | .u=>false
 | .ub=>false
 | .rv _ _ _ _=>false
def flatNs:List (N U)->Bool
 | []=>true
 | n::l=>flatN n && flatNs l
end
def dcR(rs:Sh U)(o:Option (List (HB U)×N U)):Option (Tup U (rs.ty [])):=Option.bind o fun p=>match p.1 with
 | []=>rs.de lfX p.2 (l:=[]) ()
 | _::_=>none
def callK'(φ:Env U)(md:Nat)(d:Option Nat)(f:N U)(args:List (N U))(as:List (Option U.T))(rs:Sh U)(s:St U)(k:St U->Option R):Option R:=match f with
 | .fn g first caps=>Option.bind (cvA (bif Nat.beq md 0 then []else s.H) as (first++(args++caps))) fun l =>
  Option.bind (dcR rs (φ 0 g [] l)) fun r=>bif Nat.beq md 0 || flatN (rs.of r).1 then k (s.put d (rs.of r).1)else none
 | _=>none
def nodupN:List Nat->Bool
 | []=>true
 | k::l=>!memN k l && nodupN l
def allLt(n:Nat):List Nat->Bool
 | []=>true
 | k::l=>Nat.blt k n && allLt n l
def dcG(ho:List (HSh U))(rs:Sh U)(o:Option (List (HB U)×N U)):Option (Tup U (hTy ho (rs.ty []))):=Option.bind o fun p=>bif solids ho && lenEq ho p.1 then Option.bind (rs.de lfX p.2 (l:=[]) ()) fun a=>hDe lfX ho p.1 a else none
def noRoSel(H:List (HB U)):List Nat->Bool
 | []=>true
 | r::l=>(match H[r]? with
  | some (.ro _ _)=>false
  | _=>true) && noRoSel H l
def roKeep(keep:Nat->Option Nat):List (HB U)->Bool
 | []=>true
 | .ro _ n::l=>fixN keep n && roKeep keep l
 | _::l=>roKeep keep l
def afterG(d:Option Nat)(sel pins:List Nat)(Ho:List (HB U))(y:N U)(s:St U):St U:=
 St.put ⟨rnTN (keepN sel pins) s.T,updHN sel (Ho.take sel.length) (bkN sel s.H.length (Ho.length-sel.length)) (keepN sel pins) 0 s.H++(Ho.drop sel.length).map (rnHB (bkN sel s.H.length (Ho.length-sel.length))),s.E⟩ d (rnN (bkN sel s.H.length (Ho.length-sel.length)) y)
def callG'(φ:Env U)(vr:Nat)(d:Option Nat)(f:N U)(args:List (N U))(sel:List Nat)(hi:List (HSh U))(as:List (Sh U))(ho:List (HSh U))(rs:Sh U)(s:St U)(k:St U->Option R):Option R:=match f with
 | .fn g first caps=>bif nodupN sel && allLt s.H.length sel && solids hi && lenEq hi sel && noRoSel s.H sel then
  Option.bind (shDe lfT as (rnNs (posL sel) (first++(args++caps))) (l:=[]) ()) fun a0 =>
  Option.bind (hDe lfT hi (selHN sel s.H) a0) fun a =>
  Option.bind (dcG ho rs (φ vr g (hOf false hi [] a).1 (shOf as (hOf false hi [] a).2).1)) fun r =>
  bif Nat.ble sel.length (hOf false ho [] r).1.length && roKeep (keepN sel (boxIx vr 0 (hOf false hi [] a).1)) s.H then k (afterG d sel (boxIx vr 0 (hOf false hi [] a).1) (hOf false ho [] r).1 (rs.of (hOf false ho [] r).2).1 s)else none
  else none
 | _=>none
def brG(s:St U)(g:Nat)(b:Bool):St U:=⟨(g,.v U.tb (U.bv b))::s.T,s.H,clr g s.E⟩
def alF(g i:Nat)(f:Fct):List (Nat×Fct)->List (Nat×Fct)
 | []=>[]
 | (d,.eq j)::l=>bif Nat.beq d i && !Nat.beq j g then(j,f)::alF g i f l else alF g i f l
 | _::l=>alF g i f l
def newF(E0:List (Nat×Fct))(d:Nat):List (Nat×Fct)->List (Nat×Fct)
 | []=>[]
 | (d',f)::l=>bif Nat.beq d' d then match f with
  | .lt i _=>bif Nat.beq i d then newF E0 d l else(i,.bnd)::alF d i .bnd E0++newF E0 d l
  | .ltc i=>bif Nat.beq i d then newF E0 d l else(i,.bnd)::alF d i .bnd E0++newF E0 d l
  | .gt i=>bif Nat.beq i d then newF E0 d l else(i,.pos)::alF d i .pos E0++newF E0 d l
  | _=>newF E0 d l
  else newF E0 d l
def br(s:St U)(c:Od U)(b:Bool):St U:=match c with
 | .t g=>⟨(g,.v U.tb (U.bv b))::s.T,s.H,bif b then newF s.E g s.E++clr g s.E else clr g s.E⟩
 | .c _=>s
def isTup0:N U->Bool
 | .tup []=>true
 | _=>false
def p1K(φ:Env U):P1 U->St U->(St U->Option R)->Option R
 | .a d o,s,k=>avK o d s k
 | .call md d c args as rs,s,k=>callK' φ md d (s.ev c) (args.map s.ev) as rs s k
 | .callg vr d c args sel hi as ho rs,s,k=>callG' φ vr d (s.ev c) (args.map s.ev) sel hi as ho rs s k
 | .gd g w d o,s,k=>bif o.real then match boolN (lkN s.T g)with
  | some b=>bif b then(bif w then p1K φ o (brG s g true) k else k ((brG s g true).put d (.tup [])))
   else(bif w then k ((brG s g false).put d (.tup []))else p1K φ o (brG s g false) k)
  | none=>bif isTup0 (lkN s.T g)then k (s.put d (.tup []))else none
  else none
 | .cn d t,s,k=>match asT [] t 30 (lkN s.T d)with
  | some x=>k (s.put (some d) (.v t x))
  | none=>none
 | .adT d tid e,s,k=>match lkN s.T d with
  | .ns _=>bif Nat.blt 0 (U.sz e)then k ⟨(d,.row s.H.length)::s.T,s.H++[.row tid e []],clr d s.E⟩else none
  | .row _=>k s
  | _=>none
 | .adB r p tid e,s,k=>match s.H[r]? with
  | some (.box tid' n)=>match getN n p with
   | some (.ns _)=>match setN (.row s.H.length) n p with
    | some n'=>bif Nat.blt 0 (U.sz e)then k ⟨s.T,s.H.set r (.box tid' n')++[.row tid e []],s.E⟩else none
    | none=>none
   | some (.row _)=>k s
   | _=>none
  | _=>none
 | .pad,s,k=>k ⟨s.T,s.H++[.gone],s.E⟩
 | .tr d,s,k=>match lkN s.T d with
  | .rv r e lo n=>match s.H[r]? with
   | some (.row tid e' l)=>bif Nat.beq lo 0 && Nat.beq (U.sz e) (U.sz e') && !roMen r s.H then
    (if n<=l.length then k ⟨(d,.row r)::sbTN r .u s.T,(sbHN r .u s.H).set r (.row tid e' (l.take n)),clr d s.E⟩else none)
    else none
   | _=>none
  | .row _=>k s
  | .ns _=>k s
  | _=>none
 | .perm sel,s,k=>bif nodupN sel && noPin (selHN sel s.H) && noRo s.H then k ⟨rnTN (posL sel) s.T,selHN sel s.H,s.E⟩else none
 | .nl d r,s,k=>match lkN s.T d with
  | .ns _=>match s.H[r]? with
   | some (.row tid e' _)=>bif !roMen r s.H then k ⟨(d,.row r)::sbTN r .u s.T,(sbHN r .u s.H).set r (.row tid e' []),clr d s.E⟩else none
   | _=>none
  | .row _=>k s
  | _=>none
 | .fz r t,s,k=>match s.H[r]? with
  | some (.row tid e l)=>bif !roMen r s.H then match U.inj t (.lst e l)with
   | some x=>k ⟨sbTN r (.v t x) s.T,(sbHN r (.v t x) s.H).set r .gone,s.E⟩
   | none=>none
   else none
  | some (.map q kt vt l)=>bif !roMen r s.H then match U.inj t (.mp q kt vt (U.st vt) l)with
   | some x=>k ⟨sbTN r (.v t x) s.T,(sbHN r (.v t x) s.H).set r .gone,s.E⟩
   | none=>none
   else none
  | some .gone=>k s
  | _=>none
 | .pre p o,s,k=>bif !p.real && o.real then p1K φ p s fun s'=>p1K φ o s' k else none
def runO(φ:Env U):List (P1 U)->St U->(St U->Option R)->Option R
 | [],s,k=>k s
 | o::l,s,k=>p1K φ o s fun s'=>runO φ l s' k
def loopF{S:Type}(step:S->(S->Option R)->Option R):Nat->S->Option R
 | 0,_=>none
 | n+1,s=>step s (loopF step n)
def forR{α S:Type}(step:α->S->(S->Option R)->Option R)(done:S->Option R):List α->S->Option R
 | [],s=>done s
 | a::l,s=>step a s (forR step done l)
def setTN:List Nat->List (N U)->List (Nat×N U)->List (Nat×N U)
 | p::ps,x::xs,T=>setTN ps xs ((p,x)::T)
 | _,_,T=>T
def ptT:List (Nat×Nat)->List (Nat×N U)
 | []=>[]
 | p::l=>(p.1,.ptr p.2 0 [])::ptT l
def ptOk(m:Nat)(s:St U):List (Nat×Nat)->Bool
 | []=>true
 | p::l=>(match lkN s.T p.1 with
  | .ptr q j p'=>Nat.beq q p.2 && Nat.beq j 0 && eqP p' []
  | _=>false) && Nat.blt p.2 m && ptOk m s l
def pinsAt(H:List (HB U)):Nat->List Nat->Bool
 | _,[]=>true
 | n,k::ks=>(match H[n]? with
  | some (.pin q)=>Nat.beq q k
  | _=>false) && pinsAt H (n+1) ks
def pinHs(hs:List (HSh U)):Nat->List Nat->Bool
 | _,[]=>true
 | n,k::ks=>(match hs[n]? with
  | some (.pin q)=>Nat.beq q k
  | _=>false) && pinHs hs (n+1) ks
def unpin(n:Nat):Nat->List (HB U)->List (HB U)
 | _,[]=>[]
 | k,h::l=>(bif Nat.blt k n then h else match h with
  | .pin _=>.gone
  | h=>h)::unpin n (k+1) l
def vtN:(ts:List U.T)->Tup U ts->List (N U)
 | [],_=>[]
 | t::l,x=>.v t (thd x)::vtN l (ttl x)
def argsOk(n:Nat):List (List (N U))->Bool
 | []=>true
 | x::l=>Nat.beq x.length n && argsOk n l
def purT(T:List (Nat×N U)):List Nat->Bool
 | []=>true
 | k::ks=>pureN (lkN T k) && purT T ks
def rgS(s:St U)(pt:List (Nat×Nat))(ks:List Nat):St U:=⟨ptT pt++keepT s.T ks,s.H++pt.map (fun p=>.pin p.2),[]⟩
def rgL(hs:List (HSh U)):LSh U:=⟨[],hs,[]⟩
open Classical in
noncomputable def loopN{S:Type}(step:S->(S->Option R)->Option R)(s:S):Option R:=
 if h:∃ r,∃ m,∀ n,m<=n->loopF step n s=r then h.choose else none
def jn{S:Type}(f:S->Option R)(g:(S->Option R)->Option R):Option R:=g f
def kN(k:St U->Option R)(K:Ex->St U->Option R):Ex->St U->Option R
 | .normal,s=>k s
 | .exit i,s=>K (.exit i) s
 | .ret,s=>K .ret s
def kB(id:Nat)(K:Ex->St U->Option R):Ex->St U->Option R
 | .normal,s=>K .normal s
 | .exit i,s=>bif Nat.beq i id then K .normal s else K (.exit i) s
 | .ret,s=>K .ret s
noncomputable def agree(a b:Option R):Option R:=open Classical in if a=b then a else none
theorem agree_some{a b:Option R}{r:R}(h:agree a b=some r):a=some r/\b=some r:=by
 unfold agree at h
 split at h
 ·rename_i e;exact⟨h,e ▸ h⟩
 ·cases h
theorem agree_of{a b:Option R}{r:R}(h1:a=some r)(h2:b=some r):agree a b=some r:=by
 unfold agree;rw[if_pos (h1.trans h2.symm)];exact h1
def isUb:N U->Bool
 | .ub=>true
 | _=>false
noncomputable def run(φ:Env U):TC U->St U->(Ex->St U->Option R)->Option R
 | .skip,s,K=>K .normal s
 | .ops l,s,K=>runO φ l s (K .normal)
 | .draw l,s,K=>runO φ l s (K .normal)
 | .draw2 l i sel,s,K=>agree (runO φ l s (K .normal)) (runO φ (swapAt i l) s (fun s'=>p1K φ (.perm sel) s' (K .normal)))
 | .seq a b,s,K=>run φ a s (kN (fun s'=>run φ b s' K) K)
 | .cond c x y,s,K=>match boolN (s.ev c)with
  | some b=>bif b then run φ x (br s c true) K else run φ y (br s c false) K
  | none=>bif isUb (s.ev c)then agree (run φ x s K) (run φ y s K)else none
 | .block id c,s,K=>run φ c s (kB id K)
 | .loop sh c,s,K=>bif sh.okE s then Option.bind (sh.de s) fun x0=>loopN (fun x next=>run φ c (sh.of true s x) (kN (fun s'=>Option.bind (sh.de s') next) (fun e s'=>K e (rst sh s s')))) x0 else none
 | .exit id,s,K=>K (.exit id) s
 | .ret,s,K=>K .ret s
 | .th a l,s,K=>run φ a s (kN (fun s'=>runO φ l s' (K .normal)) K)
 | .ps l a,s,K=>runO φ l s (fun s'=>run φ a s' K)
 | .range ts it f g ps pt ks hs al c,s,K=>match(rgS s pt ks).ev g with
  | .fn f' first caps=>bif Nat.beq f' f && lenEq first ([]:List Nat) && pureNs caps && ptOk hs.length s pt && purT s.T ks && pinHs hs s.H.length (pt.map (·.2)) && (rgL hs).okE (rgS s pt ks)then
   Option.bind (it caps) fun L=>bif lenEq ts ps then Option.bind ((rgL hs).de (rgS s pt ks)) fun x0 =>
    forR (fun vs x next=>runO φ al ⟨setTN ps (vtN ts vs) (rgS s pt ks).T,((rgL hs).of true (rgS s pt ks) x).H,[]⟩ (fun s2=>run φ c s2 (kN (fun s'=>bif pinsAt s'.H s.H.length (pt.map (·.2))then Option.bind ((rgL hs).de s') next else none)
      (fun e s'=>bif pinsAt s'.H s.H.length (pt.map (·.2))then K e ⟨(rgS s pt ks).T,unpin s.H.length 0 (rst (rgL hs) (rgS s pt ks) s').H,[]⟩else none))))
     (fun x=>K .normal ⟨(rgS s pt ks).T,unpin s.H.length 0 (rstH hs (rgS s pt ks).H ((rgL hs).of true (rgS s pt ks) x).H),[]⟩) L x0
    else none
   else none
  | _=>none
 | .jn sh a b,s,K=>bif sh.okE s then jn (fun x=>run φ b (sh.of false s x) K) (fun kk=>run φ a (roS sh s) (kN (fun s'=>Option.bind (sh.de s') kk) (fun e s'=>K e (rst sh s s'))))else none
end
end Go.Ab.X

set_option linter.all false
namespace Go.Ab.X
open Go.RowKit Go.Ab
section
variable {U:Uni} {R S:Type}
theorem mkK_bind{t:U.T}{v:View U.T U.I}{k:N U->Option R}:mkK t v k=(mkK t v some).bind k:=by
 unfold mkK;cases U.inj t v<;>rfl
theorem ldN_bind{t:U.T}{n:N U}{j:Nat}{p:List Nat}{k:N U->Option R}:ldN t n j p k=(ldN t n j p some).bind k:=by
 unfold ldN
 cases getN n p with
 | none=>rfl
 | some m=>simp only;cases(Nat.beq (offN n p) j && Nat.beq m.sz (U.sz t) && (bif m.st then U.st t else !U.st t))<;>rfl
theorem biK_bind{t:U.T}{op:BinOp}{kd:IntKind}{a b:Int}{k:N U->Option R}:biK t op kd a b k=(biK t op kd a b some).bind k:=by
 unfold biK
 cases op<;>first|exact mkK_bind|rfl|(simp only;split<;>first|rfl|exact mkK_bind)
theorem bsK_bind{t:U.T}{op:BinOp}{a b:ByteArray}{k:N U->Option R}:bsK t op a b k=(bsK t op a b some).bind k:=by
 unfold bsK
 cases op<;>first|exact mkK_bind|rfl|(simp only;split<;>first|rfl|exact mkK_bind)
theorem bbK_bind{op:BinOp}{a b:Bool}{k:N U->Option R}:bbK op a b k=(bbK op a b some).bind k:=by
 unfold bbK
 cases op<;>rfl
theorem cond_bind{c:Bool}{a b:Option S}{k:S->Option R}:(bif c then a else b).bind k=bif c then a.bind k else b.bind k:=by cases c<;>rfl
theorem ite_bind{c:Prop}[Decidable c]{a b:Option S}{k:S->Option R}:(if c then a else b).bind k=if c then a.bind k else b.bind k:=by split<;>rfl
theorem qv_bind{o:Q U}{s:St U}{k:N U->Option R}:qv o s k=(qv o s some).bind k:=by
 cases o with
 | bx x=>simp only[qv,cond_bind];rfl
 | bld t z ps=>simp only[qv];cases fillN s z ps z<;>rfl
 | bsl e xs=>simp only[qv];cases exL e (xs.map s.ev)<;>rfl
 | ldd t a bs =>
  simp only[qv]
  cases s.ev a<;>try rfl
  case ptr r j p =>
   simp only[cond_bind,Option.bind_none]
   congr 1
   cases boxOf s.H[r]? with
   | none=>rfl
   | some h=>exact ldN_bind
 | ld t a =>
  simp only[qv]
  cases s.ev a<;>try rfl
  case ptr r j p=>simp only;cases boxOf s.H[r]? with
   | none=>rfl
   | some h=>exact ldN_bind
  case rptr r e i j p=>simp only;cases s.H[r]? with
   | none=>rfl
   | some h =>
    cases h<;>try rfl
    case row tid e' l =>
     simp only[cond_bind,Option.bind_assoc,Option.bind_none]
     cases Nat.beq (U.sz e) (U.sz e')
     ·rfl
     ·simp only[cond_true];cases l[i]? with
      | none=>rfl
      | some a=>exact ldN_bind
  case ip n j p=>exact ldN_bind
 | ldi t a =>
  simp only[qv]
  cases s.ev a<;>try rfl
  case ip n j p =>
   simp only[cond_bind,Option.bind_none]
   congr 1
   exact ldN_bind
 | fa t i a=>simp only[qv];cases s.ev a<;>rfl
 | fld t i x=>exact ldN_bind
 | ia e x y =>
  simp only[qv]
  cases lstN (s.ev x)with
  | some p =>
   obtain⟨f,e',l⟩:=p
   cases intN (s.ev y)with
   | none=>rfl
   | some q=>obtain⟨t,kd,n⟩:=q;simp only[cond_bind,Option.bind_assoc];rfl
  | none =>
   cases intN (s.ev y)with
   | none=>rfl
   | some q =>
    obtain⟨t,kd,n⟩:=q
    simp only
    cases s.ev x<;>try rfl
    case row r=>simp only;cases s.H[r]? with
     | none=>rfl
     | some h=>cases h<;>first|rfl|(simp only[cond_bind,ite_bind];rfl)
    case rv r e' lo m=>simp only[cond_bind,ite_bind];rfl
 | ix x y =>
  simp only[qv]
  cases strN (s.ev x)<;>cases intN (s.ev y)<;>first|rfl|(simp only[Option.bind_assoc];rfl)
 | nc x =>
  simp only[qv]
  cases s.ev x<;>try rfl
  case v t y=>simp only;cases U.vw t y<;>first|rfl|(simp only[Option.bind_assoc];rfl)
 | bi op x y =>
  simp only[qv]
  cases h1:intN (s.ev x)with
  | none=>cases strN (s.ev x)<;>cases strN (s.ev y)<;>first|rfl|exact bsK_bind
  | some p =>
   cases h2:intN (s.ev y)with
   | none=>cases strN (s.ev x)<;>cases strN (s.ev y)<;>first|rfl|exact bsK_bind
   | some q =>
    obtain⟨t,kd,a⟩:=p
    obtain⟨t2,k2,b⟩:=q
    simp only[ite_bind,Option.bind_none]
    split
    ·exact biK_bind
    ·rfl
 | inc i kd =>
  simp only[qv]
  cases intN (lkN s.T i)with
  | none=>rfl
  | some p=>simp only[ite_bind,Option.bind_none];split<;>first|rfl|exact mkK_bind
 | dcr i kd =>
  simp only[qv]
  cases intN (lkN s.T i)with
  | none=>rfl
  | some p=>simp only[ite_bind,Option.bind_none];split<;>first|rfl|exact mkK_bind
 | bib op x y =>
  simp only[qv]
  cases boolN (s.ev x)<;>cases boolN (s.ev y)<;>first|rfl|exact bbK_bind
 | un x=>simp only[qv];cases boolN (s.ev x)<;>rfl
 | cvb t x =>
  simp only[qv]
  cases lstN (s.ev x)with
  | none=>rfl
  | some p =>
   obtain⟨f,e,l⟩:=p
   simp only
   cases bytesOf (l.map (U.C e))<;>first|rfl|exact mkK_bind
 | neg t x=>simp only[qv];cases intN (s.ev x)<;>first|rfl|exact mkK_bind
 | eqf ng ks x y =>
  simp only[qv,cond_bind,Option.bind_none]
  congr 1
  cases eqD ks (s.ev x).cells (s.ev y).cells<;>rfl
 | cvr t x=>simp only[qv];cases intN (s.ev x)<;>first|rfl|exact mkK_bind
 | cvi t kd x=>simp only[qv];cases intN (s.ev x)<;>first|rfl|exact mkK_bind
 | slc e x lo hi m =>
  simp only[qv]
  cases lstN (s.ev x)with
  | none=>rfl
  | some p =>
   obtain⟨f,e',l⟩:=p
   simp only[cond_bind,Option.bind_none]
   cases(Nat.beq (U.sz e) (U.sz e') && !m.isSome)
   ·rfl
   ·simp only[cond_true]
    cases bndN s 0 lo<;>cases bndN s l.length hi<;>try rfl
    simp only[Option.bind_assoc]
    rename_i a b
    cases slcL l a b l.length with
    | none=>rfl
    | some l'=>exact mkK_bind
 | slct e x hi m =>
  simp only[qv]
  cases lstN (s.ev x)with
  | none=>rfl
  | some p =>
   obtain⟨f,e',l⟩:=p
   simp only[cond_bind,Option.bind_none]
   cases(Nat.beq (U.sz e) (U.sz e'))
   ·rfl
   ·simp only[cond_true]
    cases intN (s.ev hi)<;>cases intN (s.ev m)<;>try rfl
    simp only[Option.bind_assoc]
    rfl
 | slcs x lo hi =>
  simp only[qv]
  cases strN (s.ev x)with
  | none=>rfl
  | some p =>
   obtain⟨t,b⟩:=p
   simp only
   cases bndN s 0 lo<;>cases bndN s b.size hi<;>try rfl
   simp only[Option.bind_assoc]
   rename_i a c
   cases slcB b a c with
   | none=>rfl
   | some l'=>exact mkK_bind
 | len x =>
  simp only[qv]
  cases lstN (s.ev x)with
  | some p=>rfl
  | none =>
   simp only
   cases s.ev x<;>try rfl
   case row r=>simp only;cases s.H[r]? with
    | none=>rfl
    | some h=>cases h<;>rfl
 | lens x=>simp only[qv];cases strN (s.ev x)<;>rfl
 | mx x y =>
  simp only[qv]
  cases intN (s.ev x)<;>cases intN (s.ev y)<;>try rfl
  simp only[ite_bind,Option.bind_none];split<;>first|rfl|exact mkK_bind
 | mn x y =>
  simp only[qv]
  cases intN (s.ev x)<;>cases intN (s.ev y)<;>try rfl
  simp only[ite_bind,Option.bind_none];split<;>first|rfl|exact mkK_bind
 | ext x n =>
  simp only[qv]
  cases s.ev x<;>try rfl
  rename_i vs
  simp only
  cases vs[n]?<;>rfl
 | pk c x y=>simp only[qv];cases boolN (s.ev c)<;>first|rfl|(simp only[cond_bind];rfl)
 | apt t tid e a x =>
  simp only[qv]
  cases s.ev a<;>try rfl
  case ns e0 =>
   simp only
   cases lstN (s.ev x)with
   | none=>rfl
   | some p =>
    simp only[cond_bind,ite_bind,Option.bind_none]
    split
    ·congr 1;exact mkK_bind
    ·rfl
  case tl e1 l1 =>
   simp only
   cases lstN (s.ev x)with
   | none=>rfl
   | some p =>
    obtain⟨f,e',l⟩:=p
    simp only[cond_bind,Option.bind_none]
    congr 1
    cases castL (e:=e1) l with
    | none=>rfl
    | some l' =>
     simp only[ite_bind,Option.bind_none]
     split
     ·exact mkK_bind
     ·rfl
 | eqn ng x =>
  simp only[qv]
  cases lstN (s.ev x)with
  | some p=>simp only[cond_bind];rfl
  | none =>
   simp only
   cases s.ev x<;>try rfl
   rename_i q
   simp only
   cases s.H[q]? with
   | none=>rfl
   | some h =>
    cases h<;>try rfl
    simp only[cond_bind];rfl
 | stuck=>rfl
 | eqp ng x y =>
  simp only[qv,eqpN]
  cases s.ev y<;>try rfl
  case nilp =>
   simp only
   cases s.ev x<;>try rfl
   case v t a=>simp only;cases U.vw t a<;>rfl
  case v t' b =>
   simp only
   cases U.vw t' b<;>try rfl
   simp only
   cases s.ev x<;>try rfl
   rename_i t a
   simp only
   cases U.vw t a<;>try rfl
   simp only[cond_bind];rfl
 | eqs ng n x y =>
  simp only[qv,cond_bind,Option.bind_none]
  congr 1
  rcases eqC (s.ev x).cells (s.ev y).cells with _|_|_|_<;>rfl
 | shr x=>simp only[qv];cases intN (s.ev x)<;>first|rfl|exact mkK_bind
 | capn x=>simp only[qv];cases s.ev x<;>rfl
 | sln x hi =>
  simp only[qv]
  cases s.ev x<;>try rfl
  cases intN (s.ev hi)with
  | none=>rfl
  | some p=>simp only[ite_bind,Option.bind_none];rfl
 | rsl e x lo hi m =>
  simp only[qv]
  have fin:∀(x1 x2 x3:Option Int) (L:Int) (v:Int->Int->N U),(match x1,x2,x3 with
    | some a,some b,some c=>if 0<=a/\a<=b/\b<=c/\c<=L then(bif m.isSome then k .u else k (v a b))else none
    | _,_,_=>none)=Option.bind (match x1,x2,x3 with
    | some a,some b,some c=>if 0<=a/\a<=b/\b<=c/\c<=L then(bif m.isSome then some .u else some (v a b))else none
    | _,_,_=>none) k:=by
   intro x1 x2 x3 L v
   cases x1<;>cases x2<;>cases x3<;>try rfl
   simp only
   split
   ·cases m.isSome<;>rfl
   ·rfl
  cases s.ev x<;>try rfl
  case row q =>
   simp only
   cases s.H[q]? with
   | none=>rfl
   | some h =>
    cases h<;>try rfl
    rename_i tid e' l
    simp only[cond_bind,Option.bind_none]
    congr 1
    exact fin _ _ _ (l.length) _
  case rv q e' lo0 n0 =>
   simp only
   cases s.H[q]? with
   | none=>rfl
   | some h =>
    cases h<;>try rfl
    simp only[cond_bind,Option.bind_none]
    congr 1
    exact fin _ _ _ _ _
 | mv x=>rfl
 | mkf f a b=>rfl
 | mlk q z ok m k' =>
  simp only[qv]
  cases mapN s.H (s.ev m)with
  | none=>rfl
  | some mm =>
   simp only
   cases exT mm.kt (s.ev k')with
   | none=>rfl
   | some key =>
    simp only
    cases exT mm.vt z with
    | none=>rfl
    | some zv=>simp only[cond_bind,Option.bind_none];rfl
 | mln m =>
  simp only[qv]
  cases mapN s.H (s.ev m)<;>rfl
theorem avK_bind{o:A U}{d:Option Nat}{s:St U}{k:St U->Option R}:avK o d s k=(avK o d s some).bind k:=by
 cases o with
 | q o =>
  simp only[avK]
  rw[qv_bind (k:=fun v=>k (addF o d s (s.put d v))),qv_bind (k:=fun v=>some (addF o d s (s.put d v))),Option.bind_assoc]
  rfl
 | bxm tid x=>simp only[avK,cond_bind];rfl
 | alm tid z=>rfl
 | st m t a x =>
  simp only[avK,cond_bind,Option.bind_none]
  congr 1
  cases s.ev a<;>try rfl
  case ptr r j p =>
   simp only
   match m with
   | n+2=>rfl
   | 0 =>
    simp only
    cases s.H[r]? with
    | none=>rfl
    | some h =>
     cases h<;>try rfl
     rename_i tid n
     simp only[cond_bind,Option.bind_none]
     congr 1
     cases setN (s.ev x) n p<;>rfl
   | 1 =>
    simp only
    cases s.H[r]? with
    | none=>rfl
    | some h =>
     cases h<;>try rfl
     rename_i tid n
     simp only[cond_bind,Option.bind_none]
     congr 1
     cases setN (s.ev x) n p<;>rfl
  case rptr r e i j p =>
   simp only
   have main:∀(h:Option (HB U)),(match h with
    | some (.row tid e' l)=>bif Nat.beq (U.sz e) (U.sz e')then match p with
     | []=>bif Nat.beq j 0 && Nat.beq (s.ev x).sz (U.sz e')then match exT e' (s.ev x)with
      | some y=>if i<l.length then k ⟨s.T,s.H.set r (.row tid e' (l.set i y)),s.E⟩else none
      | none=>none
      else none
     | _::_=>Option.bind (l[i]?) fun a=>bif Nat.beq (offN (.v e' a) p) j then match setN (s.ev x) (.v e' a) p with
      | some n'=>match exT e' n' with
       | some y=>k ⟨s.T,s.H.set r (.row tid e' (l.set i y)),s.E⟩
       | none=>none
      | none=>none
      else none
     else none
    | _=>none)=Option.bind (match h with
    | some (.row tid e' l)=>bif Nat.beq (U.sz e) (U.sz e')then match p with
     | []=>bif Nat.beq j 0 && Nat.beq (s.ev x).sz (U.sz e')then match exT e' (s.ev x)with
      | some y=>if i<l.length then some ⟨s.T,s.H.set r (.row tid e' (l.set i y)),s.E⟩else none
      | none=>none
      else none
     | _::_=>Option.bind (l[i]?) fun a=>bif Nat.beq (offN (.v e' a) p) j then match setN (s.ev x) (.v e' a) p with
      | some n'=>match exT e' n' with
       | some y=>some ⟨s.T,s.H.set r (.row tid e' (l.set i y)),s.E⟩
       | none=>none
      | none=>none
      else none
     else none
    | _=>none) k:=by
    intro h
    cases h with
    | none=>rfl
    | some h =>
     cases h<;>try rfl
     rename_i tid e' l
     simp only[cond_bind,Option.bind_none]
     congr 1
     cases p with
     | nil =>
      simp only[cond_bind,Option.bind_none]
      congr 1
      cases exT e' (s.ev x)with
      | none=>rfl
      | some y=>simp only[ite_bind,Option.bind_none,Option.bind_some]
     | cons i' p' =>
      simp only[Option.bind_assoc]
      congr 1
      funext a
      simp only[cond_bind,Option.bind_none]
      congr 1
      cases setN (s.ev x) (.v e' a) (i'::p')with
      | none=>rfl
      | some n' =>
       simp only
       cases exT e' n'<;>rfl
   match m with
   | 0=>exact main _
   | 1=>rfl
   | n+2=>exact main _
 | mks tid e z x =>
  simp only[avK]
  cases intN (s.ev x)with
  | none=>rfl
  | some p=>simp only[ite_bind,Option.bind_none];rfl
 | bsr tid e=>rfl
 | mkm q kt vt=>rfl
 | mup q m k' v =>
  simp only[avK]
  cases s.ev m<;>try rfl
  rename_i r
  simp only
  cases s.H[r]? with
  | none=>rfl
  | some h =>
   cases h<;>try rfl
   rename_i q' kt vt l
   simp only
   cases exT kt (s.ev k')with
   | none=>rfl
   | some key =>
    simp only
    cases exT vt (s.ev v)with
    | none=>rfl
    | some val=>simp only[cond_bind,ite_bind,Option.bind_none];rfl
 | apz tid e z a x =>
  simp only[avK]
  cases s.ev a<;>try rfl
  cases intN (s.ev x)with
  | none=>rfl
  | some p=>simp only[ite_bind,Option.bind_none];rfl
 | mkc tid e x =>
  simp only[avK]
  cases intN (s.ev x)with
  | none=>rfl
  | some p=>simp only[ite_bind,Option.bind_none];rfl
 | clr e z x =>
  simp only[avK]
  cases s.ev x<;>try rfl
  rename_i q e0 lo n
  simp only
  cases s.H[q]? with
  | none=>rfl
  | some h =>
   cases h<;>try rfl
   rename_i tid e' l
   simp only[cond_bind,Option.bind_none]
   congr 1
   cases cast e' e z with
   | none=>rfl
   | some z'=>simp only[ite_bind,Option.bind_none];rfl
 | apv tid e a x =>
  simp only[avK]
  cases s.ev a<;>try rfl
  cases s.ev x<;>try rfl
  rename_i q e1 lo i q2 e2 j m
  simp only
  cases s.H[q]? with
  | none=>rfl
  | some h =>
   cases h<;>try rfl
   simp only[cond_bind,ite_bind,Option.bind_none];rfl
 | app tid e a x =>
  simp only[avK]
  cases lstN (s.ev x)with
  | none=>rfl
  | some p =>
   obtain⟨f,e2,l2⟩:=p
   simp only[cond_bind,Option.bind_none]
   congr 1
   cases s.ev a<;>try rfl
   case ns e0=>simp only[ite_bind,Option.bind_none];rfl
   case tl e1 l1 =>
    simp only
    cases castL (e:=e1) l2 with
    | none=>rfl
    | some l' =>
     simp only[cond_bind,ite_bind,Option.bind_none]
     cases l'<;>rfl
   case row r =>
    simp only
    cases s.H[r]? with
    | none=>rfl
    | some h =>
     cases h<;>try rfl
     rename_i tid' e1 l1
     simp only[cond_bind,Option.bind_none]
     congr 1
     cases castL (e:=e1) l2 with
     | none=>rfl
     | some l'=>simp only[ite_bind,Option.bind_none];rfl
theorem callK_bind{φ:Env U}{md:Nat}{d:Option Nat}{f:N U}{args:List (N U)}{as:List (Option U.T)}{rs:Sh U}{s:St U}{k:St U->Option R} :
  callK' φ md d f args as rs s k=(callK' φ md d f args as rs s some).bind k:=by
 unfold callK'
 cases f<;>try rfl
 simp only[Option.bind_assoc,cond_bind,Option.bind_none,Option.bind_some]
theorem callG_bind{φ:Env U}{vr:Nat}{d:Option Nat}{f:N U}{args:List (N U)}{sel:List Nat}{hi:List (HSh U)}{as:List (Sh U)}{ho:List (HSh U)}{rs:Sh U}{s:St U}{k:St U->Option R} :
  callG' φ vr d f args sel hi as ho rs s k=(callG' φ vr d f args sel hi as ho rs s some).bind k:=by
 unfold callG'
 cases f<;>try rfl
 simp only[Option.bind_assoc,cond_bind,Option.bind_none,Option.bind_some]
theorem p1K_bind{φ:Env U}:∀ {o:P1 U} {R:Type} {s:St U} {k:St U->Option R},p1K φ o s k=(p1K φ o s some).bind k
 | .a d o,R,s,k=>avK_bind
 | .call md d c args as rs,R,s,k=>callK_bind
 | .callg vr d c args sel hi as ho rs,R,s,k=>callG_bind
 | .gd g w d o,R,s,k=>by
  simp only[p1K,cond_bind,Option.bind_none]
  congr 1
  cases boolN (lkN s.T g)with
  | none=>simp only[cond_bind,Option.bind_none,Option.bind_some]
  | some b =>
   cases b<;>cases w<;>simp only[cond_true,cond_false,Option.bind_some]
   ·exact p1K_bind
   ·exact p1K_bind
 | .cn d t,R,s,k=>by simp only[p1K];cases asT [] t 30 (lkN s.T d)<;>rfl
 | .adT d tid e,R,s,k=>by simp only[p1K];cases lkN s.T d<;>first|rfl|(simp only[cond_bind];rfl)
 | .adB r p tid e,R,s,k=>by
  simp only[p1K]
  cases s.H[r]? with
  | none=>rfl
  | some h =>
   cases h<;>try rfl
   rename_i tid' n
   simp only
   cases getN n p with
   | none=>rfl
   | some m =>
    cases m<;>try rfl
    rename_i e0
    simp only
    cases setN (.row s.H.length) n p with
    | none=>rfl
    | some n'=>simp only[cond_bind];rfl
 | .pad,R,s,k=>rfl
 | .perm sel,R,s,k=>by simp only[p1K,cond_bind,Option.bind_none];rfl
 | .nl d q,R,s,k=>by
  simp only[p1K]
  cases lkN s.T d<;>try rfl
  simp only
  cases s.H[q]? with
  | none=>rfl
  | some h =>
   cases h<;>try rfl
   simp only[cond_bind,Option.bind_none];rfl
 | .tr d,R,s,k=>by
  simp only[p1K]
  cases lkN s.T d<;>try rfl
  rename_i q e lo n
  simp only
  cases s.H[q]? with
  | none=>rfl
  | some h =>
   cases h<;>try rfl
   simp only[cond_bind,ite_bind,Option.bind_none];rfl
 | .pre p o,R,s,k=>by
  simp only[p1K,cond_bind,Option.bind_none]
  congr 1
  have e1:=p1K_bind (φ:=φ) (o:=p) (s:=s) (k:=fun s'=>p1K φ o s' k)
  have e2:=p1K_bind (R:=St U) (φ:=φ) (o:=p) (s:=s) (k:=fun s'=>p1K φ o s' some)
  rw[e1,e2,Option.bind_assoc]
  congr 1
  funext s'
  exact p1K_bind
 | .fz r t,R,s,k=>by
  simp only[p1K]
  cases s.H[r]? with
  | none=>rfl
  | some h =>
   cases h<;>try rfl
   ·rename_i tid e l
    simp only[cond_bind,Option.bind_none]
    congr 1
    cases U.inj t (.lst e l)<;>rfl
   ·rename_i q kt vt l
    simp only[cond_bind,Option.bind_none]
    congr 1
    cases U.inj t (.mp q kt vt (U.st vt) l)<;>rfl
theorem runO_bind{φ:Env U}:∀ {l:List (P1 U)} {s:St U} {k:St U->Option R},runO φ l s k=(runO φ l s some).bind k
 | [],s,k=>rfl
 | o::l,s,k=>by
  simp only[runO]
  rw[p1K_bind,p1K_bind (k:=fun s'=>runO φ l s' some),Option.bind_assoc]
  congr 1
  funext s'
  exact runO_bind
def Pr(ks:List Nat)(s s':St U):Prop:=(∀ k∈ks,lkN s'.T k=lkN s.T k)/\(∀(r:Nat) (t:TypeId) (n:N U),s.H[r]? = some (.ro t n)->s'.H[r]? = some (.ro t n))
def Pu(ks:List Nat)(s:St U):Prop:=∀ k∈ks,pureN (lkN s.T k)=true
theorem Pr.refl(ks:List Nat)(s:St U):Pr ks s s:=⟨fun _ _=>rfl,fun _ _ _ h=>h⟩
theorem Pr.trans{ks:List Nat}{a b c:St U}(h:Pr ks a b)(k:Pr ks b c):Pr ks a c:=⟨fun x hx=>(k.1 x hx).trans (h.1 x hx),fun r t n hr=>k.2 r t n (h.2 r t n hr)⟩
theorem Pr.pu{ks:List Nat}{a b:St U}(h:Pr ks a b)(k:Pu ks a):Pu ks b:=fun x hx=>by rw[h.1 x hx];exact k x hx
theorem memN_ok{k:Nat}{ks:List Nat}(h:memN k ks=false):∀ x∈ks,x≠k:=by
 induction ks with
 | nil=>intro x hx;cases hx
 | cons y ks ih =>
  simp only[memN,Bool.or_eq_false_iff]at h
  intro x hx
  rcases List.mem_cons.1 hx with rfl|hx
  ·exact men_ne h.1
  ·exact ih h.2 x hx
def dOk(ks:List Nat)(d:Option Nat):Bool:=match d with
 | some d=>!memN d ks
 | none=>true
theorem pr_T{ks:List Nat}{s:St U}{d:Nat}{v:N U}{H:List (HB U)}{E:List (Nat×Fct)}(hd:memN d ks=false)(hH:∀(r:Nat) (t:TypeId) (n:N U),s.H[r]? = some (.ro t n)->H[r]? = some (.ro t n)):Pr ks s ⟨(d,v)::s.T,H,E⟩:=
 ⟨fun k hk=>lkN_ne (memN_ok hd k hk),hH⟩
theorem pr_put{ks:List Nat}{s:St U}{d:Option Nat}{v:N U}{H:List (HB U)}{E:List (Nat×Fct)}(hd:dOk ks d=true)(hH:∀(r:Nat) (t:TypeId) (n:N U),s.H[r]? = some (.ro t n)->H[r]? = some (.ro t n)):Pr ks s (St.put ⟨s.T,H,E⟩ d v):=by
 cases d with
 | none=>exact⟨fun k hk=>rfl,hH⟩
 | some d=>exact pr_T (by simpa [dOk] using hd) hH
theorem app_ro{H:List (HB U)}{x:List (HB U)}{r:Nat}{t:TypeId}{n:N U}(h:H[r]? = some (.ro t n)):(H++x)[r]? = some (.ro t n):=by
 rw[List.getElem?_append_left (List.getElem?_eq_some_iff.1 h).1];exact h
theorem set_ro{H:List (HB U)}{x y:HB U}{q r:Nat}{t:TypeId}{n:N U}(hq:H[q]? = some y)(hy:∀ t n,y≠.ro t n)(h:H[r]? = some (.ro t n)):(H.set q x)[r]? = some (.ro t n):=by
 by_cases e:q=r
 ·subst e;rw[h]at hq;cases hq;exact absurd rfl (hy _ _)
 ·rw[List.getElem?_set_ne e];exact h
theorem addF_T{o:Q U}{d:Option Nat}{s s':St U}:(addF o d s s').T=s'.T/\(addF o d s s').H=s'.H:=by
 unfold addF
 repeat' split
 all_goals (try exact⟨rfl,rfl⟩)
 all_goals
  simp only[cond_eq_ite]
  repeat' split
  all_goals exact⟨rfl,rfl⟩
mutual
theorem men_pure{r:Nat}:∀(n:N U),pureN n=true->menN r n=false
 | .row q,h=>by simp[pureN]at h
 | .rptr q _ _ _ _,h=>by simp[pureN]at h
 | .ag _ fs,h=>by simp only[pureN]at h;simp only[menN,men_pures fs h]
 | .tup vs,h=>by simp only[pureN]at h;simp only[menN,men_pures vs h]
 | .fn _ a b,h=>by simp only[pureN,Bool.and_eq_true]at h;simp only[menN,men_pures a h.1,men_pures b h.2,Bool.or_self]
 | .v _ _,_=>rfl
 | .tl _ _,_=>rfl
 | .ns _,_=>rfl
 | .ptr _ _ _,_=>rfl
 | .ip _ _ _,_=>rfl
 | .nilp,_=>rfl
 | .nilf,_=>rfl
 | .nili,_=>rfl
 | .u,_=>rfl
 | .ub,_=>rfl
 | .rv q _ _ _,h=>by simp[pureN]at h
theorem men_pures{r:Nat}:∀(l:List (N U)),pureNs l=true->menNs r l=false
 | [],_=>rfl
 | n::l,h=>by simp only[pureNs,Bool.and_eq_true]at h;simp only[menNs,men_pure n h.1,men_pures l h.2,Bool.or_self]
end
mutual
theorem sb_men'{r:Nat}{y:N U}:∀(n:N U),menN r n=false->sbN r y n=n
 | .row q,h=>by simp only[menN]at h;simp only[sbN,h,cond_false]
 | .rptr q _ _ _ _,h=>by simp only[menN]at h;simp only[sbN,h,cond_false]
 | .ag _ fs,h=>by simp only[menN]at h;simp only[sbN,sb_mens' fs h]
 | .tup vs,h=>by simp only[menN]at h;simp only[sbN,sb_mens' vs h]
 | .fn _ a b,h=>by simp only[menN,Bool.or_eq_false_iff]at h;simp only[sbN,sb_mens' a h.1,sb_mens' b h.2]
 | .v _ _,_=>rfl
 | .tl _ _,_=>rfl
 | .ns _,_=>rfl
 | .ptr _ _ _,_=>rfl
 | .ip _ _ _,_=>rfl
 | .nilp,_=>rfl
 | .nilf,_=>rfl
 | .nili,_=>rfl
 | .u,_=>rfl
 | .ub,_=>rfl
 | .rv q _ _ _,h=>by simp only[menN]at h;simp only[sbN,h,cond_false]
theorem sb_mens'{r:Nat}{y:N U}:∀(l:List (N U)),menNs r l=false->sbNs r y l=l
 | [],_=>rfl
 | n::l,h=>by simp only[menNs,Bool.or_eq_false_iff]at h;simp only[sbNs,sb_men' n h.1,sb_mens' l h.2]
end
theorem sbHN_ro{q:Nat}{y:N U}:∀ {H:List (HB U)} {r:Nat} {t:TypeId} {n:N U},H[r]? = some (.ro t n)->(sbHN q y H)[r]? = some (.ro t n)
 | [],r,t,n,h=>by simp at h
 | x::H,0,t,n,h=>by simp at h;subst h;rfl
 | x::H,r+1,t,n,h=>by simp only[sbHN,List.getElem?_cons_succ]at h ⊢;exact sbHN_ro h
theorem sbHN_get{q:Nat}{y:N U}:∀ {H:List (HB U)} {r:Nat},(sbHN q y H)[r]? = (H[r]?).map (sbHB q y)
 | [],r=>by simp[sbHN]
 | x::H,0=>by simp[sbHN]
 | x::H,r+1=>by simp only[sbHN,List.getElem?_cons_succ];exact sbHN_get
theorem bs{α γ:Type}{o:Option α}{f:α->Option γ}{r:γ}(h:Option.bind o f=some r):∃ a,o=some a/\f a=some r:=by
 cases o with
 | none=>cases h
 | some a=>exact⟨a,rfl,h⟩
theorem avK_pr{ks:List Nat}{o:A U}{d:Option Nat}{s s':St U}(hd:dOk ks d=true)(hp:Pu ks s)(h:avK o d s some=some s'):Pr ks s s':=by
 have same:∀(r:Nat) (t:TypeId) (n:N U),s.H[r]? = some (.ro t n)->s.H[r]? = some (.ro t n):=fun _ _ _ h=>h
 cases o with
 | q o =>
  simp only[avK]at h
  rw[qv_bind (k:=fun v=>some (addF o d s (s.put d v)))]at h
  obtain⟨v,_,h⟩:=bs h
  obtain rfl:=Option.some.inj h
  have:=pr_put (s:=s) (v:=v) (E:=s.E) hd same
  obtain⟨e1,e2⟩:=addF_T (o:=o) (d:=d) (s:=s) (s':=s.put d v)
  exact⟨fun k hk=>by rw[e1];exact this.1 k hk,fun r t n hr=>by rw[e2];exact this.2 r t n hr⟩
 | bxm tid x =>
  simp only[avK]at h
  cases hb:boxN (s.ev x)<;>rw[hb]at h
  ·cases h
  ·obtain rfl:=Option.some.inj h
   exact pr_put hd fun r t n hr=>app_ro hr
 | alm tid z =>
  simp only[avK]at h
  obtain rfl:=Option.some.inj h
  exact pr_put hd fun r t n hr=>app_ro hr
 | st m t a x =>
  have fin:∀ {q:Nat} {y z:HB U},s.H[q]? = some y->(∀ t n,y≠.ro t n)->Pr ks s ⟨s.T,s.H.set q z,s.E⟩:=fun hq hy=>⟨fun _ _=>rfl,fun r t n hr=>set_ro hq hy hr⟩
  simp only[avK]at h
  cases hc:(boxN (s.ev x) && Nat.beq (s.ev x).sz (U.sz t))<;>rw[hc]at h
  ·cases h
  ·simp only[cond_true]at h
   split at h
   ·split at h
    ·cases h
    ·split at h
     ·rename_i hq
      cases ho:Nat.beq (offN _ _) _<;>rw[ho]at h
      ·cases h
      ·simp only[cond_true]at h
       split at h
       ·obtain rfl:=Option.some.inj h
        exact fin hq (fun _ _ e=>by cases e)
       ·cases h
     ·cases h
   ·split at h
    ·cases h
    ·split at h
     ·rename_i hq
      cases ho:Nat.beq (U.sz _) (U.sz _)<;>rw[ho]at h
      ·cases h
      ·simp only[cond_true]at h
       split at h
       ·cases ho:(Nat.beq _ 0 && Nat.beq (s.ev x).sz (U.sz _))<;>rw[ho]at h
        ·cases h
        ·simp only[cond_true]at h
         split at h
         ·split at h
          ·obtain rfl:=Option.some.inj h
           exact fin hq (fun _ _ e=>by cases e)
          ·cases h
         ·cases h
       ·obtain⟨y,_,h⟩:=bs h
        cases ho:Nat.beq (offN _ _) _<;>rw[ho]at h
        ·cases h
        ·simp only[cond_true]at h
         split at h
         ·split at h
          ·obtain rfl:=Option.some.inj h
           exact fin hq (fun _ _ e=>by cases e)
          ·cases h
         ·cases h
     ·cases h
   ·cases h
 | mks tid e z x =>
  simp only[avK]at h
  split at h
  ·split at h
   ·obtain rfl:=Option.some.inj h
    exact pr_put hd fun r t n hr=>app_ro hr
   ·cases h
  ·cases h
 | bsr tid e =>
  simp only[avK]at h
  obtain rfl:=Option.some.inj h
  exact pr_put hd fun r t n hr=>app_ro hr
 | mkm q kt vt =>
  simp only[avK]at h
  obtain rfl:=Option.some.inj h
  exact pr_put hd fun r t n hr=>app_ro hr
 | mup q m k' v =>
  simp only[avK]at h
  split at h
  ·split at h
   ·rename_i hq
    split at h
    ·split at h
     ·rename_i q' kt vt l _ key _ _ val _
      cases hc:(qEq q q' && keyN q kt key)<;>rw[hc]at h
      ·cases h
      simp only[cond_true]at h
      split at h
      ·obtain rfl:=Option.some.inj h
       exact pr_put hd fun r t n hr=>set_ro hq (fun _ _ e=>by cases e) hr
      ·cases h
     ·cases h
    ·cases h
   ·cases h
  ·cases h
 | apz tid e z a x =>
  simp only[avK]at h
  split at h
  ·split at h
   ·obtain rfl:=Option.some.inj h
    exact pr_put hd fun r t n hr=>app_ro hr
   ·cases h
  ·cases h
 | mkc tid e x =>
  simp only[avK]at h
  split at h
  ·split at h
   ·obtain rfl:=Option.some.inj h
    exact pr_put hd fun r t n hr=>app_ro hr
   ·cases h
  ·cases h
 | clr e z x =>
  simp only[avK]at h
  split at h
  ·split at h
   ·rename_i hq
    cases hc:(Nat.beq (U.sz e) (U.sz _) && Nat.beq (U.sz _) (U.sz _))<;>rw[hc]at h
    ·cases h
    ·simp only[cond_true]at h
     split at h
     ·split at h
      ·obtain rfl:=Option.some.inj h
       exact pr_put hd fun r t n hr=>set_ro hq (fun _ _ e=>by cases e) hr
      ·cases h
     ·cases h
   ·cases h
  ·cases h
 | apv tid e a x =>
  simp only[avK]at h
  split at h
  ·rename_i r e1 lo i q e2 j m ha hx
   split at h
   ·rename_i tid' e' l hq
    cases hc:(Nat.beq lo 0 && Nat.beq r q && Nat.beq tid tid' && Nat.beq (U.sz e) (U.sz e') && Nat.beq (U.sz e1) (U.sz e') && Nat.beq (U.sz e2) (U.sz e'))<;>rw[hc]at h
    ·cases h
    ·simp only[cond_true]at h
     split at h
     ·obtain rfl:=Option.some.inj h
      exact pr_put hd fun r t n hr=>set_ro hq (fun _ _ e=>by cases e) hr
     ·cases h
   ·cases h
  ·cases h
 | app tid e a x =>
  simp only[avK]at h
  split at h
  ·rename_i f e2 l2 hl
   cases hc:Nat.beq (U.sz e2) (U.sz e)<;>rw[hc]at h
   ·cases h
   ·simp only[cond_true]at h
    split at h
    ·split at h
     ·obtain rfl:=Option.some.inj h
      exact pr_put hd fun r t n hr=>app_ro hr
     ·cases h
    ·split at h
     ·cases hc:Nat.beq (U.sz _) (U.sz e)<;>rw[hc]at h
      ·cases h
      ·simp only[cond_true]at h
       split at h
       ·split at h
        ·cases h
        ·obtain rfl:=Option.some.inj h
         exact pr_put hd fun r t n hr=>app_ro hr
       ·cases h
     ·cases h
    ·rename_i q ha
     split at h
     ·rename_i tid' e1 l1 hq
      cases hc:(Nat.beq tid tid' && Nat.beq (U.sz e1) (U.sz e) && !roMen q s.H)<;>rw[hc]at h
      ·cases h
      ·simp only[cond_true]at h
       split at h
       ·split at h
        ·obtain rfl:=Option.some.inj h
         have hT:∀ k∈ks,lkN (sbTN q .u s.T) k=lkN s.T k:=fun k hk=>by
          rw[lkN_sb,sb_men' _ (men_pure _ (hp k hk))]
         have hH:∀(z:HB U) (r:Nat) (t:TypeId) (n:N U),s.H[r]? = some (.ro t n)->((sbHN q .u s.H).set q z)[r]? = some (.ro t n):=fun z r t n hr =>
          set_ro (y:=sbHB q .u (.row tid' e1 l1)) (by rw[sbHN_get,hq];rfl) (fun _ _ e=>by cases e) (sbHN_ro hr)
         have gen:∀ z,Pr ks (⟨sbTN q .u s.T,s.H,s.E⟩:St U) (St.put ⟨sbTN q .u s.T,(sbHN q .u s.H).set q z,s.E⟩ d (.row q)):=fun z=>pr_put (s:=⟨sbTN q .u s.T,s.H,s.E⟩) hd (hH z)
         exact⟨fun k hk=>((gen _).1 k hk).trans (hT k hk),(gen _).2⟩
        ·cases h
       ·cases h
     ·cases h
    ·cases h
  ·cases h
theorem lkN_rn{f:Nat->Option Nat}(T:List (Nat×N U))(n:Nat):lkN (rnTN f T) n=rnN f (lkN T n):=by
 induction T with
 | nil=>rfl
 | cons p T ih=>obtain⟨k,v⟩:=p;simp only[rnTN,lkN,ih];cases Nat.beq n k<;>rfl
theorem roKeep_get{keep:Nat->Option Nat}:∀ {H:List (HB U)} {r:Nat} {t:TypeId} {n:N U},roKeep keep H=true->H[r]? = some (.ro t n)->fixN keep n=true
 | [],r,t,n,_,h=>by simp at h
 | x::H,0,t,n,hk,h=>by
  simp at h;subst h
  simp only[roKeep,Bool.and_eq_true]at hk
  exact hk.1
 | x::H,r+1,t,n,hk,h=>by
  refine roKeep_get (H:=H) (r:=r) ?_ (by simpa using h)
  cases x<;>first|exact hk|(simp only[roKeep,Bool.and_eq_true]at hk;exact hk.2)
theorem noRoSel_ok{H:List (HB U)}:∀ {sel:List Nat},noRoSel H sel=true->∀ r∈sel,∀ t n,H[r]?≠some (.ro t n)
 | [],_,r,hr,t,n=>by cases hr
 | q::sel,h,r,hr,t,n=>by
  simp only[noRoSel,Bool.and_eq_true]at h
  rcases List.mem_cons.1 hr with rfl|hr
  ·intro e;rw[e]at h;cases h.1
  ·exact noRoSel_ok h.2 r hr t n
theorem updHN_get{sel:List Nat}{Hout:List (HB U)}{bk keep:Nat->Option Nat}:∀(l:List (HB U)) (k q:Nat),(updHN sel Hout bk keep k l)[q]? = (l[q]?).map fun x=>match posL sel (k+q)with
  | some j=>rnHB bk (Hout[j]?.getD .gone)
  | none=>rnHB keep x
 | [],k,q=>by simp[updHN]
 | x::l,k,0=>by simp only[updHN,List.getElem?_cons_zero,Option.map_some,Nat.add_zero];cases posL sel k<;>rfl
 | x::l,k,q+1=>by
  simp only[updHN,List.getElem?_cons_succ,updHN_get l (k+1) q]
  rw[show k+1+q=k+(q+1) by omega]
theorem callG_pr{ks:List Nat}{φ:Env U}{vr:Nat}{d:Option Nat}{f:N U}{args:List (N U)}{sel:List Nat}{hi:List (HSh U)}{as:List (Sh U)}{ho:List (HSh U)}{rs:Sh U}{s s':St U}(hd:dOk ks d=true)(hp:Pu ks s)
  (h:callG' φ vr d f args sel hi as ho rs s some=some s'):Pr ks s s':=by
 unfold callG' at h
 split at h
 ·cases hc:(nodupN sel && allLt s.H.length sel && solids hi && lenEq hi sel && noRoSel s.H sel)<;>rw[hc]at h
  ·cases h
  ·simp only[Bool.and_eq_true]at hc
   simp only[cond_true]at h
   obtain⟨a0,_,h⟩:=bs h
   obtain⟨a,_,h⟩:=bs h
   obtain⟨r,_,h⟩:=bs h
   cases hc2:(Nat.ble sel.length (hOf false ho [] r).1.length && roKeep (keepN sel (boxIx vr 0 (hOf false hi [] a).1)) s.H)<;>rw[hc2]at h
   ·cases h
   ·simp only[Bool.and_eq_true]at hc2
    obtain rfl:=Option.some.inj h
    have hT:∀ k∈ks,lkN (rnTN (keepN sel (boxIx vr 0 (hOf false hi [] a).1)) s.T) k=lkN s.T k:=fun k hk=>by
     rw[lkN_rn,rn_fix _ (fix_pure _ (hp k hk))]
    refine Pr.trans (b:=⟨rnTN (keepN sel (boxIx vr 0 (hOf false hi [] a).1)) s.T,s.H,s.E⟩) ⟨hT,fun _ _ _ h=>h⟩ (pr_put hd fun q t n hr=>app_ro ?_)
    simp only at hr
    rw[updHN_get,hr,Nat.zero_add]
    simp only[Option.map_some]
    cases hq:posL sel q with
    | some j=>exact absurd hr (noRoSel_ok hc.2 q (List.mem_of_getElem? (posL_get hq)) t n)
    | none=>simp only[rnHB];rw[rn_fix _ (roKeep_get hc2.2 hr)]
 ·cases h
theorem noRo_get:∀ {H:List (HB U)} {r:Nat} {t:TypeId} {m:N U},noRo H=true->H[r]?≠some (.ro t m)
 | [],r,t,m,_,h=>by simp at h
 | h::H,0,t,m,hn,hr=>by simp at hr;subst hr;cases hn
 | h::H,r+1,t,m,hn,hr=>by
  refine noRo_get (H:=H) (r:=r) (t:=t) (m:=m) ?_ (by simpa using hr)
  cases h<;>first|exact hn|cases hn
theorem all_swap{ks:List Nat}:∀(i:Nat) (l:List (P1 U)),l.all (P1.kp ks)=true->(swapAt i l).all (P1.kp ks)=true
 | 0,[],h=>h
 | 0,[_],h=>h
 | 0,x::y::l,h=>by simp only[swapAt,List.all_cons,Bool.and_eq_true]at h ⊢;exact⟨h.2.1,h.1,h.2.2⟩
 | _+1,[],h=>h
 | i+1,x::l,h=>by simp only[swapAt,List.all_cons,Bool.and_eq_true]at h ⊢;exact⟨h.1,all_swap i l h.2⟩
theorem p1_pr{ks:List Nat}{φ:Env U}:∀ {o:P1 U} {s s':St U},o.kp ks=true->Pu ks s->p1K φ o s some=some s'->Pr ks s s'
 | .a d o,s,s',hk,hp,h=>avK_pr (d:=d) hk hp h
 | .call md d c args as rs,s,s',hk,hp,h=>by
  simp only[p1K]at h
  unfold callK' at h
  split at h
  ·obtain⟨l,_,h⟩:=bs h
   obtain⟨x,_,h⟩:=bs h
   cases hc:(Nat.beq md 0 || flatN (rs.of x).1)<;>rw[hc]at h
   ·cases h
   ·obtain rfl:=Option.some.inj h
    exact pr_put (d:=d) hk fun _ _ _ h=>h
  ·cases h
 | .callg vr d c args sel hi as ho rs,s,s',hk,hp,h=>callG_pr (d:=d) hk hp h
 | .gd g w d o,s,s',hk,hp,h=>by
  simp only[P1.kp,Bool.and_eq_true,Bool.not_eq_true']at hk
  obtain⟨⟨k1,k2⟩,k3⟩:=hk
  simp only[p1K]at h
  have hbr:∀ b,Pr ks s (brG s g b):=fun b=>pr_T k1 fun _ _ _ h=>h
  have put:∀ {s:St U},Pr ks s (s.put d (.tup [])):=fun {s}=>pr_put (s:=s) (d:=d) (E:=s.E) k2 fun _ _ _ h=>h
  cases hr:o.real<;>rw[hr]at h
  ·cases h
  ·simp only[cond_true]at h
   cases hb:boolN (lkN s.T g)with
   | none =>
    rw[hb]at h
    simp only at h
    cases ht:isTup0 (lkN s.T g)<;>rw[ht]at h
    ·cases h
    ·obtain rfl:=Option.some.inj h;exact put
   | some b =>
    rw[hb]at h
    cases b<;>cases w<;>simp only[cond_true,cond_false]at h
    ·exact(hbr _).trans (p1_pr k3 ((hbr _).pu hp) h)
    ·obtain rfl:=Option.some.inj h;exact(hbr _).trans put
    ·obtain rfl:=Option.some.inj h;exact(hbr _).trans put
    ·exact(hbr _).trans (p1_pr k3 ((hbr _).pu hp) h)
 | .cn d t,s,s',hk,hp,h=>by
  simp only[p1K]at h
  split at h
  ·obtain rfl:=Option.some.inj h;exact pr_put (d:=some d) hk fun _ _ _ h=>h
  ·cases h
 | .adT d tid e,s,s',hk,hp,h=>by
  simp only[p1K]at h
  split at h
  ·cases hc:Nat.blt 0 (U.sz e)<;>rw[hc]at h
   ·cases h
   ·obtain rfl:=Option.some.inj h
    exact pr_T (by simpa [P1.kp] using hk) fun r t n hr=>app_ro hr
  ·obtain rfl:=Option.some.inj h
   exact .refl _ _
  ·cases h
 | .adB q p tid e,s,s',hk,hp,h=>by
  simp only[p1K]at h
  split at h
  ·rename_i tid' n hq
   split at h
   ·split at h
    ·cases hc:Nat.blt 0 (U.sz e)<;>rw[hc]at h
     ·cases h
     ·obtain rfl:=Option.some.inj h
      exact⟨fun _ _=>rfl,fun r t n hr=>app_ro (set_ro hq (fun _ _ e=>by cases e) hr)⟩
    ·cases h
   ·obtain rfl:=Option.some.inj h
    exact .refl _ _
   ·cases h
  ·cases h
 | .pad,s,s',hk,hp,h=>by
  obtain rfl:=Option.some.inj h
  exact⟨fun _ _=>rfl,fun r t n hr=>app_ro hr⟩
 | .tr d,s,s',hk,hp,h=>by
  simp only[p1K]at h
  split at h
  ·rename_i q e lo n hx
   split at h
   ·rename_i tid e' l hq
    cases hc:(Nat.beq lo 0 && Nat.beq (U.sz e) (U.sz e') && !roMen q s.H)<;>rw[hc]at h
    ·cases h
    ·simp only[cond_true]at h
     split at h
     ·obtain rfl:=Option.some.inj h
      have hT:∀ k∈ks,lkN (sbTN q .u s.T) k=lkN s.T k:=fun k hk=>by
       rw[lkN_sb,sb_men' _ (men_pure _ (hp k hk))]
      have hH:∀(z:HB U) (r:Nat) (t:TypeId) (n:N U),s.H[r]? = some (.ro t n)->((sbHN q .u s.H).set q z)[r]? = some (.ro t n):=fun z r t n hr =>
       set_ro (y:=sbHB q .u (.row tid e' l)) (by rw[sbHN_get,hq];rfl) (fun _ _ e=>by cases e) (sbHN_ro hr)
      have gen:∀ z,Pr ks (⟨sbTN q .u s.T,s.H,s.E⟩:St U) ⟨(d,.row q)::sbTN q .u s.T,(sbHN q .u s.H).set q z,clr d s.E⟩:=fun z=>pr_T (by simpa [P1.kp] using hk) (hH z)
      exact⟨fun k hk=>((gen _).1 k hk).trans (hT k hk),(gen _).2⟩
     ·cases h
   ·cases h
  ·obtain rfl:=Option.some.inj h
   exact .refl _ _
  ·obtain rfl:=Option.some.inj h
   exact .refl _ _
  ·cases h
 | .perm sel,s,s',hk,hp,h=>by
  simp only[p1K]at h
  cases hc:(nodupN sel && noPin (selHN sel s.H) && noRo s.H)<;>rw[hc]at h
  ·cases h
  ·simp only[Bool.and_eq_true]at hc
   obtain rfl:=Option.some.inj h
   refine⟨fun k hk=>?_,fun r t n hr=>?_⟩
   ·show lkN (rnTN _ s.T) k=_
    rw[lkN_rn,rn_fix _ (fix_pure _ (hp k hk))]
   ·exact absurd hr (noRo_get hc.2)
 | .nl d q,s,s',hk,hp,h=>by
  simp only[p1K]at h
  split at h
  ·split at h
   ·rename_i tid e' l hq
    cases hc:roMen q s.H<;>rw[hc]at h
    ·obtain rfl:=Option.some.inj h
     have hT:∀ k∈ks,lkN (sbTN q .u s.T) k=lkN s.T k:=fun k hk=>by
      rw[lkN_sb,sb_men' _ (men_pure _ (hp k hk))]
     have hH:∀(z:HB U) (r:Nat) (t:TypeId) (n:N U),s.H[r]? = some (.ro t n)->((sbHN q .u s.H).set q z)[r]? = some (.ro t n):=fun z r t n hr =>
      set_ro (y:=sbHB q .u (.row tid e' l)) (by rw[sbHN_get,hq];rfl) (fun _ _ e=>by cases e) (sbHN_ro hr)
     have gen:∀ z,Pr ks (⟨sbTN q .u s.T,s.H,s.E⟩:St U) ⟨(d,.row q)::sbTN q .u s.T,(sbHN q .u s.H).set q z,clr d s.E⟩:=fun z=>pr_T (by simpa [P1.kp] using hk) (hH z)
     exact⟨fun k hk=>((gen _).1 k hk).trans (hT k hk),(gen _).2⟩
    ·cases h
   ·cases h
  ·obtain rfl:=Option.some.inj h
   exact .refl _ _
  ·cases h
 | .pre p o,s,s',hk,hp,h=>by
  simp only[P1.kp,Bool.and_eq_true]at hk
  simp only[p1K]at h
  cases hr:(!p.real && o.real)<;>rw[hr]at h
  ·cases h
  ·simp only[cond_true]at h
   rw[p1K_bind]at h
   obtain⟨s1,h1,h2⟩:=bs h
   have k1:=p1_pr hk.1 hp h1
   exact k1.trans (p1_pr hk.2 (k1.pu hp) h2)
 | .fz q t,s,s',hk,hp,h=>by
  simp only[p1K]at h
  split at h
  ·rename_i tid e l hq
   cases hm:roMen q s.H<;>rw[hm]at h
   ·simp only[Bool.not_false,cond_true]at h
    split at h
    ·rename_i x hx
     obtain rfl:=Option.some.inj h
     exact⟨fun k hk=>by show lkN (sbTN q _ s.T) k=_;rw[lkN_sb,sb_men' _ (men_pure _ (hp k hk))],fun r t' n hr =>
      set_ro (y:=sbHB q (.v t x) (.row tid e l)) (by rw[sbHN_get,hq];rfl) (fun _ _ e=>by cases e) (sbHN_ro hr)⟩
    ·cases h
   ·cases h
  ·rename_i qq kt vt l hq
   cases hm:roMen q s.H<;>rw[hm]at h
   ·simp only[Bool.not_false,cond_true]at h
    split at h
    ·rename_i x hx
     obtain rfl:=Option.some.inj h
     exact⟨fun k hk=>by show lkN (sbTN q _ s.T) k=_;rw[lkN_sb,sb_men' _ (men_pure _ (hp k hk))],fun r t' n hr =>
      set_ro (y:=sbHB q (.v t x) (.map qq kt vt l)) (by rw[sbHN_get,hq];rfl) (fun _ _ e=>by cases e) (sbHN_ro hr)⟩
    ·cases h
   ·cases h
  ·obtain rfl:=Option.some.inj h
   exact .refl _ _
  ·cases h
theorem runO_pr{ks:List Nat}{φ:Env U}:∀ {l:List (P1 U)} {s s':St U},l.all (P1.kp ks)=true->Pu ks s->runO φ l s some=some s'->Pr ks s s'
 | [],s,s',_,_,h=>by obtain rfl:=Option.some.inj h;exact .refl _ _
 | o::l,s,s',hk,hp,h=>by
  simp only[List.all_cons,Bool.and_eq_true]at hk
  simp only[runO]at h
  rw[p1K_bind]at h
  obtain⟨s1,h1,h2⟩:=bs h
  have k1:=p1_pr hk.1 hp h1
  exact k1.trans (runO_pr hk.2 (k1.pu hp) h2)
theorem subN_ok{ks l:List Nat}(h:subN ks l=true):∀ k∈ks,k∈l:=by
 have mem:∀ {k:Nat} {l:List Nat},memN k l=true->k∈l:=by
  intro k l
  induction l with
  | nil=>intro h;cases h
  | cons x l ih =>
   intro h
   simp only[memN,Bool.or_eq_true]at h
   rcases h with h|h
   ·obtain rfl:=Nat.eq_of_beq_eq_true h;simp
   ·simp[ih h]
 induction ks with
 | nil=>intro k hk;cases hk
 | cons x ks ih =>
  simp only[subN,Bool.and_eq_true]at h
  intro k hk
  rcases List.mem_cons.1 hk with rfl|hk
  ·exact mem h.1
  ·exact ih h.2 k hk
theorem lkN_app{A B:List (Nat×N U)}{k:Nat}(h:∀ p∈A,p.1≠k):lkN (A++B) k=lkN B k:=by
 induction A with
 | nil=>rfl
 | cons p A ih =>
  obtain⟨d,v⟩:=p
  rw[List.cons_append,lkN_ne (fun e=>h (d,v) (List.mem_cons_self ..) e.symm)]
  exact ih fun p hp=>h p (List.mem_cons_of_mem _ hp)
theorem lkN_keep{T:List (Nat×N U)}{k:Nat}:∀ {ks:List Nat},k∈ks->lkN (keepT T ks) k=lkN T k
 | x::ks,h=>by
  simp only[keepT]
  by_cases e:k=x
  ·subst e;rw[lkN_eq]
  ·rw[lkN_ne e]
   rcases List.mem_cons.1 h with h|h
   ·exact absurd h e
   ·exact lkN_keep h
theorem tOf_keys:∀(xs:List (Nat×Sh U)) {l:List U.T} (s:Tup U (tTy xs l)),(tOf xs s).1.map (·.1)=xs.map (·.1)
 | [],_,s=>rfl
 | x::xs,_,s=>by simp only[tOf,List.map_cons];rw[tOf_keys xs]
theorem kpT_ok{T:List (Nat×N U)}{ts:List (Nat×Sh U)}:∀ {ks:List Nat},kpT T ts ks=true->∀ k∈ks,pureN (lkN T k)=true/\∀ p∈ts,p.1≠k
 | x::ks,h,k,hk=>by
  simp only[kpT,Bool.and_eq_true,Bool.not_eq_true']at h
  rcases List.mem_cons.1 hk with rfl|hk
  ·refine⟨h.1.1,fun p hp=>?_⟩
   exact memN_ok h.1.2 _ (List.mem_map.2 ⟨p,hp,rfl⟩)
  ·exact kpT_ok h.2 k hk
theorem of_T{L:LSh U}{ro:Bool}{s:St U}{x:Tup U L.ty}(h:L.okE s=true):∀ k∈L.ks,lkN (L.of ro s x).T k=lkN s.T k:=by
 unfold LSh.okE at h
 simp only[Bool.and_eq_true]at h
 intro k hk
 show lkN ((tOf L.ts x).1++keepT s.T L.ks) k=_
 rw[lkN_app,lkN_keep hk]
 intro p hp
 have h1:p.1∈(tOf L.ts x).1.map (·.1):=List.mem_map.2 ⟨p,hp,rfl⟩
 have h1:p.1∈L.ts.map (·.1):=by
  have e:=tOf_keys L.ts (l:=hTy L.hs []) x
  rw[<-e];exact h1
 obtain⟨q,hq,e⟩:=List.mem_map.1 h1
 rw[<-e]
 exact(kpT_ok h.1.2 k hk).2 q hq
theorem of_pu{L:LSh U}{s:St U}(h:L.okE s=true):Pu L.ks s:=by
 unfold LSh.okE at h
 simp only[Bool.and_eq_true]at h
 exact fun k hk=>(kpT_ok h.1.2 k hk).1
theorem rst_ro{n:Nat}:∀ {hs:List (HSh U)} {H H':List (HB U)} {r:Nat} {t:TypeId} {m:N U},kpH n hs H=true->H[r]? = some (.ro t m)->r<H'.length->(rstH hs H H')[r]? = some (.ro t m)
 | [],H,H',r,t,m,hk,hr,_=>by
  exact absurd hr (noRo_get hk)
 | x::hs,H,h'::H',0,t,m,hk,hr,_=>by
  simp only[kpH,Bool.and_eq_true]at hk
  cases H with
  | nil=>simp at hr
  | cons h H =>
   simp at hr
   subst hr
   have h1:=hk.1
   simp only[kp1,hd0]at h1
   cases hx:x.isKeep<;>rw[hx]at h1
   ·cases h1
   ·simp only[rstH,hx,cond_true,hd0];rfl
 | x::hs,H,h'::H',r+1,t,m,hk,hr,hl=>by
  simp only[kpH,Bool.and_eq_true]at hk
  cases H with
  | nil=>simp at hr
  | cons h H =>
   simp only[rstH,List.getElem?_cons_succ,List.tail_cons]
   exact rst_ro hk.2 (by simpa using hr) (by simpa using hl)
 | x::hs,H,[],r,t,m,_,_,hl=>by simp at hl
theorem of_ro{ro:Bool}:∀ {hs:List (HSh U)} {n:Nat} {H:List (HB U)} {l:List U.T} {s:Tup U (hTy hs l)} {r:Nat} {t:TypeId} {m:N U},kpH n hs H=true->H[r]? = some (.ro t m)->(hOf ro hs H s).1[r]? = some (.ro t m)
 | [],n,H,l,s,r,t,m,hk,hr=>by
  exact absurd hr (noRo_get hk)
 | x::hs,n,H,l,s,0,t,m,hk,hr=>by
  simp only[kpH,Bool.and_eq_true]at hk
  cases H with
  | nil=>simp at hr
  | cons h H =>
   simp at hr
   subst hr
   have h1:=hk.1
   simp only[kp1,hd0]at h1
   cases x<;>simp only[HSh.isKeep,cond_false,Bool.false_eq_true]at h1
   cases ro<;>rfl
 | x::hs,n,H,l,s,r+1,t,m,hk,hr=>by
  simp only[kpH,Bool.and_eq_true]at hk
  cases H with
  | nil=>simp at hr
  | cons h H =>
   simp only[hOf,List.getElem?_cons_succ,List.tail_cons]
   exact of_ro hk.2 (by simpa using hr)
theorem roH_ro:∀ {hs:List (HSh U)} {H:List (HB U)} {r:Nat} {t:TypeId} {m:N U},H[r]? = some (.ro t m)->(roH hs H)[r]? = some (.ro t m)
 | [],H,r,t,m,hr=>by simpa [roH] using hr
 | x::hs,[],r,t,m,hr=>by simp at hr
 | x::hs,h::H,0,t,m,hr=>by
  simp at hr;subst hr
  simp only[roH,List.getElem?_cons_zero]
  cases x.isKeep<;>rfl
 | x::hs,h::H,r+1,t,m,hr=>by
  simp only[roH,List.getElem?_cons_succ]at hr ⊢
  exact roH_ro hr
theorem okE_H{L:LSh U}{s:St U}(h:L.okE s=true):kpH L.hs.length L.hs s.H=true:=by
 unfold LSh.okE at h
 simp only[Bool.and_eq_true]at h
 exact h.2
theorem forR_congr{α:Type}{step step':α->S->(S->Option R)->Option R}{done done':S->Option R}(h:∀ a x n n',(∀ y,n y=n' y)->step a x n=step' a x n')(hd:∀ x,done x=done' x):∀(l:List α) (x:S),forR step done l x=forR step' done' l x
 | [],x=>hd x
 | a::l,x=>h a x _ _ (forR_congr h hd l)
theorem unpin_get{n:Nat}:∀ {H:List (HB U)} {k r:Nat},(unpin n k H)[r]? = (H[r]?).map fun h=>bif Nat.blt (k+r) n then h else match h with
  | .pin _=>.gone
  | h=>h
 | [],k,r=>by simp[unpin]
 | h::H,k,0=>by simp only[unpin,List.getElem?_cons_zero,Option.map_some,Nat.add_zero];try (cases h<;>rfl)
 | h::H,k,r+1=>by simp only[unpin,List.getElem?_cons_succ];rw[unpin_get,show k+1+r=k+(r+1) by omega]
theorem unpin_ro{n k r:Nat}{H:List (HB U)}{t:TypeId}{m:N U}(h:H[r]? = some (.ro t m)):(unpin n k H)[r]? = some (.ro t m):=by
 rw[unpin_get,h];cases hb:Nat.blt (k+r) n<;>simp[hb]
theorem ptT_keys:∀(pt:List (Nat×Nat)),(ptT pt:List (Nat×N U)).map (·.1)=pt.map (·.1)
 | []=>rfl
 | p::l=>by simp[ptT,ptT_keys l]
theorem rgS_T{s:St U}{pt:List (Nat×Nat)}{ks' ks:List Nat}(h1:subN ks ks'=true)(h2:ks.all (fun k=>!memN k (pt.map (·.1)))=true):∀ k∈ks,lkN (rgS s pt ks').T k=lkN s.T k:=by
 intro k hk
 show lkN (ptT pt++keepT s.T ks') k=_
 rw[lkN_app,lkN_keep (subN_ok h1 k hk)]
 intro p hp
 have h3:p.1∈(ptT pt:List (Nat×N U)).map (·.1):=List.mem_map.2 ⟨p,hp,rfl⟩
 rw[ptT_keys]at h3
 have h4:=List.all_eq_true.1 h2 k hk
 exact memN_ok (by simpa using h4) _ h3
theorem run_pr{φ:Env U}:∀(c:TC U) {ks:List Nat} {s:St U} {K K':Ex->St U->Option R},c.kp ks=true->Pu ks s->(∀ e s',Pr ks s s'->K e s'=K' e s')->run φ c s K=run φ c s K'
 | .skip,ks,s,K,K',hk,hp,h=>h _ _ (.refl _ _)
 | .ops l,ks,s,K,K',hk,hp,h=>by
  simp only[run]
  rw[runO_bind,runO_bind (k:=K' .normal)]
  cases hr:runO φ l s some with
  | none=>rfl
  | some s'=>exact h _ _ (runO_pr hk hp hr)
 | .draw l,ks,s,K,K',hk,hp,h=>by
  simp only[run]
  rw[runO_bind,runO_bind (k:=K' .normal)]
  cases hr:runO φ l s some with
  | none=>rfl
  | some s'=>exact h _ _ (runO_pr hk hp hr)
 | .draw2 l i sel,ks,s,K,K',hk,hp,h=>by
  have e1:runO φ l s (K .normal)=runO φ l s (K' .normal):=by
   rw[runO_bind,runO_bind (k:=K' .normal)]
   cases hr:runO φ l s some with
   | none=>rfl
   | some s'=>exact h _ _ (runO_pr hk hp hr)
  have hk2:(swapAt i l).all (P1.kp ks)=true:=all_swap i l hk
  have e2:runO φ (swapAt i l) s (fun s'=>p1K φ (.perm sel) s' (K .normal))=runO φ (swapAt i l) s (fun s'=>p1K φ (.perm sel) s' (K' .normal)):=by
   rw[runO_bind,runO_bind (k:=fun s'=>p1K φ (.perm sel) s' (K' .normal))]
   cases hr:runO φ (swapAt i l) s some with
   | none=>rfl
   | some s' =>
    simp only[Option.bind_some]
    have hs:=runO_pr hk2 hp hr
    rw[p1K_bind,p1K_bind (k:=K' .normal)]
    cases hq:p1K φ (.perm sel) s' some with
    | none=>rfl
    | some s''=>exact h _ _ (hs.trans (p1_pr (o:=.perm sel) rfl (hs.pu hp) hq))
  show agree _ _=agree _ _
  rw[e1,e2]
 | .seq a b,ks,s,K,K',hk,hp,h=>by
  simp only[TC.kp,Bool.and_eq_true]at hk
  refine run_pr a hk.1 hp fun e s' hs=>?_
  cases e with
  | normal=>exact run_pr b hk.2 (hs.pu hp) fun e s'' h'=>h _ _ (hs.trans h')
  | exit i=>exact h _ _ hs
  | ret=>exact h _ _ hs
 | .cond c x y,ks,s,K,K',hk,hp,h=>by
  simp only[TC.kp,Bool.and_eq_true]at hk
  obtain⟨⟨k1,k2⟩,k3⟩:=hk
  have hb:∀ b,Pr ks s (br s c b):=by
   intro b
   cases c with
   | c x=>exact .refl _ _
   | t g=>exact pr_T (by simpa using k1) fun _ _ _ h=>h
  simp only[run]
  cases boolN (s.ev c)with
  | none =>
   simp only
   rw[run_pr x k2 hp h,run_pr y k3 hp h]
  | some b =>
   cases b
   ·exact run_pr y k3 ((hb false).pu hp) fun e s' h'=>h _ _ ((hb false).trans h')
   ·exact run_pr x k2 ((hb true).pu hp) fun e s' h'=>h _ _ ((hb true).trans h')
 | .block id c,ks,s,K,K',hk,hp,h=>by
  refine run_pr c (by simpa [TC.kp] using hk) hp fun e s' hs=>?_
  cases e with
  | normal=>exact h _ _ hs
  | exit i=>simp only[kB];rw[h _ _ hs,h _ _ hs]
  | ret=>exact h _ _ hs
 | .loop sh c,ks,s,K,K',hk,hp,h=>by
  simp only[TC.kp,Bool.and_eq_true]at hk
  obtain⟨hsub,hk⟩:=hk
  simp only[run]
  cases hok:sh.okE s
  ·rfl
  ·simp only[cond_true]
   congr 1
   funext x0
   congr 1
   funext x next
   refine run_pr c (ks:=ks) hk (fun k hk=>by rw[of_T hok k (subN_ok hsub k hk)];exact hp k hk) fun e s' hs=>?_
   have key:Pr ks s (rst sh s s'):=⟨fun k hk=>(hs.1 k hk).trans (of_T hok k (subN_ok hsub k hk)),fun r t m hr=>rst_ro (okE_H hok) hr (List.getElem?_eq_some_iff.1 (hs.2 r t m (of_ro (okE_H hok) hr))).1⟩
   cases e with
   | normal=>rfl
   | exit i=>exact h _ _ key
   | ret=>exact h _ _ key
 | .range ts it f g ps pt ks' hs al c,ks,s,K,K',hk,hp,h=>by
  simp only[TC.kp,Bool.and_eq_true]at hk
  obtain⟨⟨⟨k1,k2⟩,k3⟩,k4⟩:=hk
  simp only[run]
  cases(rgS s pt ks').ev g<;>try rfl
  rename_i f' first caps
  simp only
  cases hc:(Nat.beq f' f && lenEq first ([]:List Nat) && pureNs caps && ptOk hs.length s pt && purT s.T ks' && pinHs hs s.H.length (pt.map (·.2)) && (rgL hs).okE (rgS s pt ks'))
  ·rfl
  ·simp only[Bool.and_eq_true]at hc
   have hok:=hc.2
   simp only[cond_true]
   congr 1
   funext L
   cases lenEq ts ps
   ·rfl
   simp only[cond_true]
   congr 1
   funext x0
   have ro0:∀(r:Nat) (t:TypeId) (m:N U),s.H[r]? = some (.ro t m)->(rgS s pt ks').H[r]? = some (.ro t m):=fun r t m hr=>by
    show(s.H++_)[r]? = _
    rw[List.getElem?_append_left (List.getElem?_eq_some_iff.1 hr).1];exact hr
   have key:∀(H:List (HB U)),(∀(r:Nat) (t:TypeId) (m:N U),s.H[r]? = some (.ro t m)->r<H.length)->Pr ks s ⟨(rgS s pt ks').T,unpin s.H.length 0 (rstH hs (rgS s pt ks').H H),[]⟩:=fun H hH =>
    ⟨rgS_T k1 k2,fun r t m hr=>unpin_ro (rst_ro (okE_H hok) (ro0 r t m hr) (hH r t m hr))⟩
   refine forR_congr (fun vs x n n' hn=>?_) (fun x=>h _ _ (key _ fun r t m hr=>?_)) L x0
   ·rw[runO_bind,runO_bind (k:=fun s2=>run φ c s2 (kN (fun s'=>bif pinsAt s'.H s.H.length (pt.map (·.2))then Option.bind ((rgL hs).de s') n' else none) (fun e s'=>bif pinsAt s'.H s.H.length (pt.map (·.2))then K' e ⟨(rgS s pt ks').T,unpin s.H.length 0 (rst (rgL hs) (rgS s pt ks') s').H,[]⟩else none)))]
    cases hr:runO φ al ⟨setTN ps (vtN ts vs) (rgS s pt ks').T,((rgL hs).of true (rgS s pt ks') x).H,[]⟩ some with
    | none=>rfl
    | some s2 =>
     have p1:=runO_pr k3 (fun _ h=>by cases h) hr
     simp only[Option.bind_some]
     refine run_pr c (ks:=[]) k4 (fun _ h=>by cases h) fun e s' p2=>?_
     have p3:=p1.trans p2
     have p4:=key s'.H fun r t m hr=>(List.getElem?_eq_some_iff.1 (p3.2 r t m (of_ro (okE_H hok) (ro0 r t m hr)))).1
     cases e with
     | normal =>
      simp only[kN]
      cases pinsAt s'.H s.H.length (pt.map (·.2))
      ·rfl
      ·rw[funext hn]
     | exit i =>
      simp only[kN]
      cases pinsAt s'.H s.H.length (pt.map (·.2))
      ·rfl
      ·exact h _ _ p4
     | ret =>
      simp only[kN]
      cases pinsAt s'.H s.H.length (pt.map (·.2))
      ·rfl
      ·exact h _ _ p4
   ·exact(List.getElem?_eq_some_iff.1 (of_ro (okE_H hok) (ro0 r t m hr))).1
 | .exit id,ks,s,K,K',hk,hp,h=>h _ _ (.refl _ _)
 | .ret,ks,s,K,K',hk,hp,h=>h _ _ (.refl _ _)
 | .th a l,ks,s,K,K',hk,hp,h=>by
  simp only[TC.kp,Bool.and_eq_true]at hk
  refine run_pr a hk.1 hp fun e s' hs=>?_
  cases e with
  | normal =>
   simp only[kN]
   rw[runO_bind,runO_bind (k:=K' .normal)]
   cases hr:runO φ l s' some with
   | none=>rfl
   | some s2=>exact h _ _ (hs.trans (runO_pr hk.2 (hs.pu hp) hr))
  | exit i=>exact h _ _ hs
  | ret=>exact h _ _ hs
 | .ps l a,ks,s,K,K',hk,hp,h=>by
  simp only[TC.kp,Bool.and_eq_true]at hk
  simp only[run]
  rw[runO_bind,runO_bind (k:=fun s'=>run φ a s' K')]
  cases hr:runO φ l s some with
  | none=>rfl
  | some s2 =>
   have h1:=runO_pr hk.1 hp hr
   exact run_pr a hk.2 (h1.pu hp) fun e s' hs=>h _ _ (h1.trans hs)
 | .jn sh a b,ks,s,K,K',hk,hp,h=>by
  simp only[TC.kp,Bool.and_eq_true]at hk
  obtain⟨⟨hsub,ha⟩,hb⟩:=hk
  simp only[run,jn]
  cases hok:sh.okE s
  ·rfl
  ·simp only[cond_true]
   refine run_pr a (ks:=ks) ha hp fun e s' hs=>?_
   cases e with
   | normal =>
    simp only[kN]
    congr 1
    funext x
    refine run_pr b (ks:=ks) hb (fun k hk=>by rw[of_T hok k (subN_ok hsub k hk)];exact hp k hk) fun e s'' h'=>h _ _ ?_
    exact⟨fun k hk=>(h'.1 k hk).trans (of_T hok k (subN_ok hsub k hk)),fun r t m hr=>h'.2 r t m (of_ro (okE_H hok) hr)⟩
   | exit i=>exact h _ _ ⟨hs.1,fun r t m hr=>rst_ro (okE_H hok) hr (List.getElem?_eq_some_iff.1 (hs.2 r t m (roH_ro hr))).1⟩
   | ret=>exact h _ _ ⟨hs.1,fun r t m hr=>rst_ro (okE_H hok) hr (List.getElem?_eq_some_iff.1 (hs.2 r t m (roH_ro hr))).1⟩
end
end Go.Ab.X

set_option linter.all false
namespace Go.Ab.X
open Go.RowKit Go.Ab
section
variable {U:Uni} {R:Type} {P:Program}
def SndE(P:Program)(φ:Env U):Prop:=∀(vr g:Nat) (Hin:List (HB U)) (args:List (N U)) (Hout:List (HB U)) (y:N U),φ vr g Hin args=some (Hout,y)->noPin Hin=true->∀(B:Nat->Value) (β:Nat->Value),
 PG P g (absH β 0 Hin++pinsOf B (boxIx vr 0 Hin)) (absL args) (absH β 0 Hout++pinsOf B (boxIx vr 0 Hin)) y.abs
theorem lent_nil(I:Addr->Prop)(w:World):lentΓ I w [] noθ=freshΓ I w:=by
 have e:(fun k=>w.heap.size<=k\/∃ r,owns [] noθ r k)=(fun k=>w.heap.size<=k):=by
  funext k
  refine propext ⟨fun h=>?_,.inl⟩
  rcases h with h|⟨r,⟨x,hx,_⟩,_⟩
  ·exact h
  ·simp at hx
 unfold lentΓ freshΓ
 congr
theorem pg_pr{g:FuncId}{args:List AV}{Hout:List AB}{r:AV}(h:PG P g [] args Hout r):PR P g args Hout r:=by
 refine⟨h.1,fun I w vals hI hj hv=>?_⟩
 have S:Sim (lentΓ I w [] noθ) I noθ [] w:=by
  refine⟨⟨rfl,rfl,rfl,Nat.le_refl _,fun _ _ _=>rfl,hj,fun g hg h=>h.elim (fun h=>absurd (JW_lt hj g hg) (Nat.not_lt.2 h)) fun⟨r,⟨x,hx,_⟩,_⟩=>by simp at hx⟩,fun _ h=>h,fun _ h=>.inl h,hI,?_,?_,?_,?_,fun _ _=>rfl,?_,fun q p B h=>by simp at h,fun r q es h=>by simp at h⟩
  ·intro r t cs h;simp at h
  ·intro r e sz els h;simp at h
  ·rintro r q B _ ⟨⟨x,hx,_⟩,_⟩ _;simp at hx
  ·rintro a r _ ⟨⟨x,hx,_⟩,_⟩;simp at hx
  ·rintro r B ⟨⟨x,hx,_⟩,_⟩;simp at hx
 have:=h.2 I noθ w vals S hv
 rw[lent_nil]at this
 exact this
theorem SndE.pr{φ:Env U}(hS:SndE P φ){vr g:Nat}{args:List (N U)}{Hout:List (HB U)}{y:N U}(h:φ vr g [] args=some (Hout,y))(β:Nat->Value):PR P g (absL args) (absH β 0 Hout) y.abs:=by
 have:=hS vr g [] args Hout y h rfl (fun _=>.nilFunc) β
 simp only[absH,boxIx,pinsOf,List.map_nil,List.append_nil]at this
 exact pg_pr this
mutual
theorem sh_flat{n:Nat}:∀(x:AV),flatB x=true->sh n x=x
 | .i _ _,_=>rfl
 | .b _,_=>rfl
 | .s _,_=>rfl
 | .agg cs,h=>by simp only[sh];rw[shL_flat cs (by simpa [flatB] using h)]
 | .tup cs,h=>by simp only[sh];rw[shL_flat cs (by simpa [flatB] using h)]
 | .nils,_=>rfl
 | .nilp,_=>rfl
 | .nilf,_=>rfl
 | .nili,_=>rfl
 | .u,h=>by simp[flatB]at h
 | .sl _ _ _,h=>by simp[flatB]at h
 | .row _,h=>by simp[flatB]at h
 | .ptr _ _,h=>by simp[flatB]at h
 | .rptr _ _ _ _,h=>by simp[flatB]at h
 | .ip _ _,h=>by simp[flatB]at h
 | .fn _ _ _,h=>by simp[flatB]at h
 | .ub,h=>by simp[flatB]at h
 | .rv _ _ _ _,h=>by simp[flatB]at h
theorem shL_flat{n:Nat}:∀(x:List AV),flatL x=true->shL n x=x
 | [],_=>rfl
 | c::cs,h=>by
  simp only[flatL,Bool.and_eq_true]at h
  simp only[shL];rw[sh_flat c h.1,shL_flat cs h.2]
end
section
variable (hU:U.Ok)
include hU
mutual
theorem flatN_ok:∀(n:N U),flatN n=true->flatB n.abs=true
 | .v t x,h=>by
  simp only[flatN,flatV]at h
  split at h
  ·rename_i hv;simp only[N.abs,V_int hU hv,flatB]
  ·rename_i hv;simp only[N.abs,V_bool hU hv,flatB]
  ·rename_i hv;simp only[N.abs,V_str hU hv,flatB]
  ·cases h
 | .tup vs,h=>by simp only[N.abs,flatB];exact flatNs_ok vs (by simpa [flatN] using h)
 | .nilp,_=>rfl
 | .nilf,_=>rfl
 | .nili,_=>rfl
 | .tl _ _,h=>by simp[flatN]at h
 | .ns _,h=>by simp[flatN]at h
 | .ag _ _,h=>by simp[flatN]at h
 | .row _,h=>by simp[flatN]at h
 | .ptr _ _ _,h=>by simp[flatN]at h
 | .rptr _ _ _ _ _,h=>by simp[flatN]at h
 | .ip _ _ _,h=>by simp[flatN]at h
 | .fn _ _ _,h=>by simp[flatN]at h
 | .u,h=>by simp[flatN]at h
 | .ub,h=>by simp[flatN]at h
 | .rv _ _ _ _,h=>by simp[flatN]at h
theorem flatNs_ok:∀(l:List (N U)),flatNs l=true->flatL (absL l)=true
 | [],_=>rfl
 | n::l,h=>by
  simp only[flatNs,Bool.and_eq_true]at h
  simp only[absL,flatL,Bool.and_eq_true];exact⟨flatN_ok n h.1,flatNs_ok l h.2⟩
end
omit hU in
theorem cvA_cons{H:List (HB U)}{n:N U}{ns:List (N U)}{as:List (Option U.T)}:cvA H as (n::ns)=Option.bind (cvA H as.tail ns) fun l=>match as.headD none with
  | some t=>match asT H t 30 n with
   | some x=>some (.v t x::l)
   | none=>none
  | none=>bif pureN n then some (n::l)else none:=by cases as<;>rfl
theorem cvA_ok(β:Nat->Value){H:List (HB U)}:∀(ns:List (N U)) (as:List (Option U.T)) {l:List (N U)},cvA H as ns=some l->FZL (absH β 0 H) (absL ns) (absL l)/\pureL (absL l)=true
 | [],as,l,h=>by
  have:[]=l:=Option.some.inj (by cases as<;>exact h)
  subst this
  exact⟨.nil,rfl⟩
 | n::ns,as,l,h=>by
  rw[cvA_cons]at h
  obtain⟨l',h1,h2⟩:=bind_some' hU h
  obtain⟨k1,k2⟩:=cvA_ok β ns as.tail h1
  split at h2
  ·rename_i t _
   split at h2
   ·rename_i x hx
    obtain rfl:=Option.some.inj h2
    exact⟨.cons _ _ _ _ (asT_fz hU β hx) k1,by simp only[absL,pureL,N.abs,V_pure hU,k2,Bool.and_self]⟩
   ·exact(none_some h2).elim
  ·cases hp:pureN n<;>rw[hp]at h2
   ·exact(none_some h2).elim
   ·obtain rfl:=Option.some.inj h2
    exact⟨.cons _ _ _ _ (.le _ _ (.refl _) (pureN_ok hU hp)) k1,by simp only[absL,pureL,pureN_ok hU hp,k2,Bool.and_self]⟩
theorem absL_app(a b:List (N U)):absL (a++b)=absL a++absL b:=by simp[absL_eq]
theorem dcR_ok{rs:Sh U}{o:Option (List (HB U)×N U)}{r:Tup U (rs.ty [])}(h:dcR rs o=some r):∃ y,o=some ([],y)/\(rs.of r).1.abs=y.abs:=by
 obtain⟨p,h1,h2⟩:=bind_some' hU h
 obtain⟨H,y⟩:=p
 simp only at h2
 split at h2
 ·exact⟨y,h1,(exSh_ok hU h2).1⟩
 ·exact(none_some h2).elim
theorem call_ok'(β:Nat->Value){φ:Env U}(hS:SndE P φ){md:Nat}{d:Option Nat}{c:Od U}{args:List (Od U)}{as:List (Option U.T)}{rs:Sh U}{s:St U}{k:St U->Option R}{r:R}(hE:FOk s)
  (h:callK' φ md d (s.ev c) (args.map s.ev) as rs s k=some r):wp1 P (P1.er (.call md d c args as rs)) (absS β s) (fun t=>∃ s',t=absS β s'/\FOk s'/\k s'=some r):=by
 unfold callK' at h
 split at h
 ·rename_i g first caps hc
  obtain⟨l,h1,h⟩:=bind_some' hU h
  obtain⟨x,h2,h⟩:=bind_some' hU h
  obtain⟨y,h3,h4⟩:=dcR_ok hU h2
  have hpr:=hS.pr h3 β
  cases hb:(Nat.beq md 0 || flatN (rs.of x).1)<;>rw[hb]at h
  ·exact(none_some h).elim
  ·have b2:=hb
   have hev:(absS β s).ev c.er=.fn (.func g) (absL first) (absL caps):=by rw[ev_abs,hc];rfl
   have hargs:(absL first++(args.map Od.er).map (absS β s).ev)++absL caps=absL (first++(args.map s.ev++caps)):=by
    rw[evs_abs hU,absL_app hU,absL_app hU,List.append_assoc]
   have hQ:∃ s',Ab.put (absS β s) d y.abs=absS β s'/\FOk s'/\k s'=some r:=⟨_,by rw[put_abs,h4],FOk_put hE,h⟩
   cases hm:Nat.beq md 0
   ·rw[hm]at h1 b2
    simp only[Bool.false_or]at b2
    obtain⟨c1,c2⟩:=cvA_ok hU β _ _ h1
    have hfl:=flatN_ok hU _ b2
    rw[h4]at hfl
    simp only[P1.er,hm,cond_false,wp1]
    refine .inl ⟨g,absL first,absL caps,absL l,[],y.abs,hev,.inr ⟨by rw[hargs];exact c1,hfl,rfl⟩,hpr,?_⟩
    simp only[List.map_nil,List.append_nil,sh_flat _ hfl]
    exact hQ
   ·rw[hm]at h1
    obtain⟨c1,c2⟩:=cvA_ok hU β _ _ h1
    simp only[P1.er,hm,cond_true,wp1]
    refine⟨g,absL first,absL caps,absL l,y.abs,hev,by rw[hargs];exact(FZL_nil c1).1.wk,c2,hpr.pc0,hQ⟩
 ·cases h
omit hU in
theorem memN_false{k:Nat}{ks:List Nat}(h:memN k ks=false):k∉ks:=fun hk=>memN_ok h k hk rfl
omit hU in
theorem nodupN_ok:∀ {l:List Nat},nodupN l=true->l.Nodup
 | [],_=>List.nodup_nil
 | k::l,h=>by
  simp only[nodupN,Bool.and_eq_true,Bool.not_eq_true']at h
  exact List.nodup_cons.2 ⟨memN_false h.1,nodupN_ok h.2⟩
omit hU in
theorem allLt_ok{n:Nat}:∀ {l:List Nat},allLt n l=true->∀ k∈l,k<n
 | [],_,k,hk=>by cases hk
 | x::l,h,k,hk=>by
  simp only[allLt,Bool.and_eq_true]at h
  rcases List.mem_cons.1 hk with rfl|hk
  ·simpa [Nat.blt_eq] using h.1
  ·exact allLt_ok h.2 k hk
omit hU in
theorem solids_noPin:∀(xs:List (HSh U)) {l:List U.T} (s:Tup U (hTy xs l)),solids xs=true->noPin (hOf false xs [] s).1=true
 | [],_,s,_=>rfl
 | x::xs,_,s,h=>by
  simp only[solids,Bool.and_eq_true]at h
  have ih:=solids_noPin xs (x.of false .gone s).2 h.2
  cases x with
  | box tid sh=>exact ih
  | row tid t =>
   simp only[hOf,hd0,List.tail_nil]
   cases hv:U.vw t (thd s)<;>simp only[HSh.of,hv]<;>exact ih
  | map t =>
   simp only[hOf,hd0,List.tail_nil]
   cases hv:U.vw t (thd s)<;>simp only[HSh.of,hv]<;>exact ih
  | gone=>cases h.1
  | pin _=>cases h.1
  | keep=>cases h.1
omit hU in
theorem noPin_app:∀ {a b:List (HB U)},noPin (a++b)=true->noPin a=true/\noPin b=true
 | [],b,h=>⟨rfl,h⟩
 | x::a,b,h=>by
  cases x with
  | pin _=>cases h
  | _=>exact noPin_app (a:=a) h
omit hU in
theorem hDe_noPin{lf:Lf U}:∀ {xs:List (HSh U)} {H:List (HB U)} {l:List U.T} {acc:Tup U l} {s:Tup U (hTy xs l)},solids xs=true->xs.length=H.length->hDe lf xs H acc=some s->noPin H=true
 | [],[],_,_,s,_,_,_=>rfl
 | [],_::_,_,_,s,_,hl,_=>by simp at hl
 | _::_,[],_,_,s,_,_,h=>(none_some h).elim
 | x::xs,h::H,_,acc,s,hs,hl,hd=>by
  simp only[solids,Bool.and_eq_true]at hs
  obtain⟨s',h1,h2⟩:=bs (show Option.bind (hDe lf xs H acc) (fun s=>x.de lf h s)=some s from hd)
  have ih:=hDe_noPin hs.2 (by simpa using hl) h1
  cases h with
  | pin q =>
   cases x with
   | box _ _=>exact(none_some h2).elim
   | row _ _=>exact(none_some h2).elim
   | map _=>exact(none_some h2).elim
   | gone=>cases hs.1
   | pin _=>cases hs.1
   | keep=>cases hs.1
  | _=>exact ih
omit hU in
theorem intN_rn(f:Nat->Option Nat)(n:N U):intN (rnN f n)=intN n/\boolN (rnN f n)=boolN n:=by
 cases n with
 | row q=>simp only[rnN];cases f q<;>exact⟨rfl,rfl⟩
 | ptr q _ _=>simp only[rnN];cases f q<;>exact⟨rfl,rfl⟩
 | rptr q e i j p=>simp only[rnN];cases f q<;>exact⟨rfl,rfl⟩
 | rv q e i j=>simp only[rnN];cases f q<;>exact⟨rfl,rfl⟩
 | _=>exact⟨rfl,rfl⟩
theorem call_okG(β:Nat->Value){φ:Env U}(hS:SndE P φ){vr:Nat}{d:Option Nat}{c:Od U}{args:List (Od U)}{sel:List Nat}{hi:List (HSh U)}{as:List (Sh U)}{ho:List (HSh U)}{rs:Sh U}{s:St U}{k:St U->Option R}{r:R}(hE:FOk s)
  (h:callG' φ vr d (s.ev c) (args.map s.ev) sel hi as ho rs s k=some r):wp1 P (P1.er (.callg vr d c args sel hi as ho rs)) (absS β s) (fun t=>∃ s',t=absS β s'/\FOk s'/\k s'=some r):=by
 unfold callG' at h
 split at h
 ·rename_i g first caps hc
  cases hb:(nodupN sel && allLt s.H.length sel && solids hi && lenEq hi sel && noRoSel s.H sel)<;>rw[hb]at h
  ·exact(none_some h).elim
  ·simp only[Bool.and_eq_true]at hb
   obtain⟨⟨⟨⟨b1,b2⟩,b3⟩,b4⟩,b5⟩:=hb
   simp only[cond_true]at h
   obtain⟨a0,h1,h⟩:=bind_some' hU h
   obtain⟨a,h2,h⟩:=bind_some' hU h
   obtain⟨x,h3,h⟩:=bind_some' hU h
   obtain⟨p,h4,h5⟩:=bind_some' hU h3
   obtain⟨Hraw,y⟩:=p
   simp only at h5
   cases hso:(solids ho && lenEq ho Hraw)<;>rw[hso]at h5
   ·exact(none_some h5).elim
   simp only[Bool.and_eq_true]at hso
   simp only[cond_true]at h5
   obtain⟨a1,h6,h7⟩:=bind_some' hU h5
   cases hc2:(Nat.ble sel.length (hOf false ho [] x).1.length && roKeep (keepN sel (boxIx vr 0 (hOf false hi [] a).1)) s.H)<;>rw[hc2]at h
   ·exact(none_some h).elim
   simp only[Bool.and_eq_true]at hc2
   simp only[cond_true]at h
   have hlen:sel.length<=(hOf false ho [] x).1.length:=Nat.le_of_ble_eq_true hc2.1
   obtain⟨e1,e2⟩:=exSh_ok hU h6
   obtain⟨q1,q2⟩:=hX_ok hU β ho Hraw 0 hso.1 hso.2 h7
   obtain⟨i1,i2,i3⟩:=hDe_ok hU false β hi (selHN sel s.H) [] 0 (fun r b hr=>by
    exfalso
    have hs:∀(xs:List (HSh U)) (r:Nat),solids xs=true->xs[r]?≠some HSh.keep:=by
     intro xs
     induction xs with
     | nil=>intro r _ h;simp at h
     | cons y ys ih =>
      intro r h hr
      simp only[solids,Bool.and_eq_true]at h
      cases r with
      | zero=>simp at hr;subst hr;cases h.1
      | succ r=>exact ih r h.2 (by simpa using hr)
    exact hs hi r b3 hr) h2
   obtain⟨j1,j2,j3⟩:=deL_ok hU (relLE hU) (fun t n x h=>lfT_ok hU t n x h) as h1
   have hnp:noPin (hOf false hi [] a).1=true:=solids_noPin hi a b3
   have hnpo:noPin (hOf false ho [] x).1=true:=solids_noPin ho x hso.1
   have hnpt:noPin ((hOf false ho [] x).1.take sel.length)=true/\noPin ((hOf false ho [] x).1.drop sel.length)=true:=noPin_app (by rw[List.take_append_drop];exact hnpo)
   have hsl:hi.length=sel.length:=lenEq_ok b4
   have hsn:noPin (selHN sel s.H)=true:=hDe_noPin b3 (by rw[hsl];simp[selHN]) h2
   have hev:(absS β s).ev c.er=.fn (.func g) (absL first) (absL caps):=by rw[ev_abs,hc];rfl
   have hargs:(absL first++(args.map Od.er).map (absS β s).ev)++absL caps=absL (first++(args.map s.ev++caps)):=by
    rw[evs_abs hU,absL_app hU,absL_app hU,List.append_assoc]
   have hl0:(absS β s).H.length=s.H.length:=absH_len β s.H 0
   have hdr:(absH β 0 ((hOf false ho [] x).1.drop sel.length)).length=(hOf false ho [] x).1.length-sel.length:=by rw[absH_len,List.length_drop]
   have hsplit:absH β 0 Hraw=absH β 0 ((hOf false ho [] x).1.take sel.length)++absH β 0 ((hOf false ho [] x).1.drop sel.length):=by
    rw[q1]
    conv=>lhs;rw[<-List.take_append_drop sel.length (hOf false ho [] x).1]
    rw[absH_app,noPin_abs β β ((hOf false ho [] x).1.drop sel.length) _ 0 hnpt.2]
   cases sel with
   | nil =>
    have hh:hi=[]:=List.eq_nil_of_length_eq_zero (by simpa using hsl)
    subst hh
    simp only[P1.er,wp1]
    refine⟨g,absL first,absL caps,absL (shOf as (hOf false ([]:List (HSh U)) [] a).2).1,absH β 0 (hOf false ho [] x).1,(rs.of (hOf false ho [] x).2).1.abs,hev,?_,fun B=>?_,?_⟩
    ·rw[hargs,<-absL_rn hU,i2];exact j2
    ·have:=hS vr g _ _ Hraw y h4 hnp B β
     rw[q1]at this
     rw[q2,e1]
     simpa [hOf,absH,boxIx,pinsOf] using this
    ·refine⟨_,?_,?_,h⟩
     ·have hx0:=fun kk=>abs_extra hU β hnpo (f:=bkN [] s.H.length (hOf false ho [] x).1.length) kk
      have hu0:=abs_upd hU β (sel:=[]) (Hout:=[]) (bk:=bkN [] s.H.length (hOf false ho [] x).1.length) (keep:=keepN [] []) rfl s.H 0
      rw[show afterG d [] _ _ _ s=St.put _ d _ from rfl,put_abs,abs_rn hU]
      simp only[absS,absT_rn hU,absH_app,backS,absH_len,List.length_nil,Nat.sub_zero,List.take_zero,List.drop_zero,hOf,boxIx,Nat.zero_add]
      rw[hx0,hu0]
      rfl
     ·refine FOk_put (FOk_T (fun n=>?_) (fun n m h=>by rw[lkN_rn,lkN_rn,h]) hE)
      rw[lkN_rn];exact intN_rn _ _
   | cons r0 sel' =>
   generalize hselq:r0::sel'=sel at *
   have her:P1.er (.callg vr d c args sel hi as ho rs)=.callr d c.er (args.map Od.er):=by rw[<-hselq];rfl
   rw[her]
   simp only[wp1]
   refine .inr ⟨g,absL first,absL caps,absL (shOf as (hOf false hi [] a).2).1,sel,boxIx vr 0 (hOf false hi [] a).1,absH β 0 (hOf false hi [] a).1,absH β 0 ((hOf false ho [] x).1.take sel.length),absH β 0 ((hOf false ho [] x).1.drop sel.length),(rs.of (hOf false ho [] x).2).1.abs,hev,
    ⟨nodupN_ok b1,fun k hk=>by rw[hl0];exact allLt_ok b2 k hk,?_,by rw[absH_len,i3,hsl],by rw[absH_len,List.length_take];omega,fun k hk=>?_⟩,?_,fun B=>?_,?_⟩
   ·show HL (selH sel (absH β 0 s.H)) _
    rw[<-abs_sel hU β β hsn];exact i1
   ·obtain⟨j,rfl,hj⟩:=boxIx_ok β _ _ 0 k hk
    rw[Nat.zero_add];exact hj
   ·rw[hargs,<-absL_rn hU,i2];exact j2
   ·have:=hS vr g _ _ Hraw y h4 hnp B β
    rw[hsplit,List.append_assoc]at this
    rw[q2,e1]
    exact this
   ·refine⟨_,?_,?_,h⟩
    ·rw[show afterG d sel _ _ _ s=St.put _ d _ from rfl,put_abs,abs_rn hU]
     simp only[absS,absT_rn hU,absH_app,abs_upd hU β hnpt.1,abs_extra hU β hnpt.2,backS,hdr,absH_len]
    ·refine FOk_put (FOk_T (fun n=>?_) (fun n m h=>by rw[lkN_rn,lkN_rn,h]) hE)
     rw[lkN_rn];exact intN_rn _ _
 ·cases h
end
theorem eqv_brG(β:Nat->Value)(hU:U.Ok){s:St U}{g:Nat}{b:Bool}{E:List (Nat×Fct)}(h:boolN (lkN s.T g)=some b):Eqv (absS β (⟨(g,.v U.tb (U.bv b))::s.T,s.H,E⟩:St U)) (absS β s):=by
 refine⟨rfl,fun t=>?_⟩
 simp only[absS,lk_abs]
 by_cases e:t=g
 ·subst e
  rw[lkN_eq,abs_tb hU,boolN_ok hU h]
 ·rw[lkN_ne e]
theorem isTup0_ok{n:N U}(h:isTup0 n=true):n.abs=.tup []:=by
 unfold isTup0 at h
 split at h
 ·rfl
 ·cases h
theorem Good.eqv{Γ : Ctx}{N:Nat}{s t:AS}{a:Act}{w:World}(G:Good Γ N s a w)(h:Eqv s t):Good Γ N t a w:=by
 obtain⟨⟨I,θ,S,hR⟩,h1,h2⟩:=G
 exact⟨⟨I,θ,by rw[<-h.1];exact S,fun n=>by rw[<-h.2 n];exact hR n⟩,h1,h2⟩
theorem wks_T{T T':List (Nat×AV)}{H:List AB}(h:∀ n,LE (lk T n) (lk T' n)):Wks ⟨T,H⟩ ⟨T',H⟩:=by
 rintro Γ N a w ⟨⟨I,θ,S,hR⟩,h1,h2⟩
 exact⟨⟨I,θ,S,fun n=>(h n).rv (hR n)⟩,h1,h2⟩
theorem Wks.trunc{T:List (Nat×AV)}{H:List AB}(d:Nat){q:Nat}{e:TypeId}{sz n:Nat}{els:List (List AV)}(hx:lk T d=.rv q sz 0 n)(hh:H[q]? = some (.row e sz els))(hn:n<=els.length) :
  Wks ⟨T,H⟩ ⟨(d,.row q)::sbT q .u T,(sbH q .u H).set q (.row e sz (sbE q .u (els.take n)))⟩:=by
 rintro Γ N a w ⟨⟨I,θ,S,hR⟩,h1,h2⟩
 have hv:=hR d
 rw[hx]at hv
 simp only[RV]at hv
 obtain⟨a0,l,c,e1,e2,e3,e4,e5,e6,a',ev,e7,_⟩:=hv
 obtain rfl:=e7 trivial
 obtain⟨v,xs,k1,k2,k3,k4,k5,k6,k7⟩:=S.row q e sz els hh
 obtain rfl:v=.slice a' l c:=by rw[e1]at k1;exact(Option.some.inj k1).symm
 have hl:(sbE q .u (els.take n)).length=n:=by rw[sbE_length,List.length_take];omega
 have hown:w.ownsRow 0 e sz (.slice a' n c) (sbE q .u (els.take n)).length (xs.take (n * sz)):=by
  rw[hl]
  refine⟨?_,?_⟩
  ·rw[List.length_take,k2.1]
   exact Nat.min_eq_left (Nat.mul_le_mul_right _ hn)
  ·rcases k2.2 with⟨h,h0⟩|⟨g,cap,cur,h,j1,j2,j3,j4,j5,j6⟩
   ·cases h
    obtain rfl:n=0:=by omega
    exact .inl ⟨rfl,rfl⟩
   ·cases h
    refine .inr ⟨g,c,cur,rfl,j1,j2,by omega,j4,j5,?_⟩
    rw[<-j6,List.take_take,Nat.min_eq_left (Nat.mul_le_mul_right _ hn)]
 obtain⟨j1,j2,j3⟩:=S.regrow (els':=sbE q .u (els.take n)) (v':=.slice a' n c) (xs':=xs.take (n * sz)) (w':=w) hh e1 ⟨rfl,rfl,rfl,Nat.le_refl _,fun _ _ _=>rfl⟩ hown (.inl (by cases a'<;>rfl))
  (fun u hu=>k3 u (List.mem_of_mem_take hu)) (sbE_mem fun el hel=>k5 el (List.mem_of_mem_take hel)) (by rw[hl];omega) (fun θ' _ h2 _=>by
   rw[sbE_flatten]
   exact h2 _ _ (flat_take k4 k5 n))
 refine⟨⟨I,_,j1,fun m=>?_⟩,h1,h2⟩
 simp only[lk]
 cases hm:m == d with
 | true =>
  obtain rfl:m=d:=by simpa using hm
  rw[cond_true,ev]
  exact j3
 | false =>
  rw[cond_false,sbT_lk]
  exact j2 _ _ (hR m)
theorem Wks.perm{T:List (Nat×AV)}{H:List AB}{sel:List Nat}(hn:sel.Nodup):Wks ⟨T,H⟩ ⟨rnT (posL sel) T,selH sel H⟩:=by
 rintro Γ N a w ⟨⟨I,θ,S,hR⟩,h1,h2⟩
 obtain⟨S1,hv,_⟩:=S.sel sel hn
 exact⟨⟨I,_,S1,fun n=>by simp only[rnT_lk];exact hv _ _ (hR n)⟩,h1,h2⟩
theorem wks_eqv{a b:AS}(h:Eqv a b):Wks a b:=fun _ _ _ _ G=>Good.eqv G h
theorem wpo_mono'{P:Program}:∀ {l:List SOp} {st:AS} {Q Q':AS->Prop},wpo P l st Q->(∀ s,Q s->Q' s)->wpo P l st Q'
 | [],_,_,_,h,hq=>hq _ h
 | _::_,_,_,_,h,hq=>wp1_mono h fun _ h'=>wpo_mono' h' hq
theorem erL_swap:∀(i:Nat) (l:List (P1 U)),allReal l=true->erL (swapAt i l)=swapAt i (erL l)
 | 0,[],_=>rfl
 | 0,[x],h=>by simp only[allReal,Bool.and_eq_true]at h;simp only[swapAt,erL,h.1,cond_true]
 | 0,x::y::l,h=>by simp only[allReal,Bool.and_eq_true]at h;simp only[swapAt,erL,h.1,h.2.1,cond_true]
 | i+1,[],_=>rfl
 | i+1,x::l,h=>by simp only[allReal,Bool.and_eq_true]at h;simp only[swapAt,erL,h.1,cond_true,erL_swap i l h.2]
theorem Wks.niln{T:List (Nat×AV)}{H:List AB}(d:Nat){q:Nat}{e:TypeId}{sz:Nat}{els:List (List AV)}(hx:lk T d=.nils)(hh:H[q]? = some (.row e sz els)) :
  Wks ⟨T,H⟩ ⟨(d,.row q)::sbT q .u T,(sbH q .u H).set q (.row e sz [])⟩:=by
 rintro Γ N a w ⟨⟨I,θ,S,hR⟩,h1,h2⟩
 have hv:=hR d
 rw[hx]at hv
 simp only[RV]at hv
 obtain⟨v,xs,k1,k2,k3,k4,k5,k6,k7⟩:=S.row q e sz els hh
 obtain⟨j1,j2,j3⟩:=S.regrow (els':=[]) (v':=.slice none 0 0) (xs':=[]) (w':=w) hh k1 ⟨rfl,rfl,rfl,Nat.le_refl _,fun _ _ _=>rfl⟩ ⟨by simp,.inl ⟨rfl,rfl⟩⟩ (.inr (.inr rfl))
  (by simp) (by simp) (by simp) (fun θ' _ h2 _=>by simp[RVs])
 refine⟨⟨I,_,j1,fun m=>?_⟩,h1,h2⟩
 simp only[lk]
 cases hm:m == d with
 | true =>
  obtain rfl:m=d:=by simpa using hm
  rw[cond_true,hv]
  exact j3
 | false =>
  rw[cond_false,sbT_lk]
  exact j2 _ _ (hR m)
theorem pseudo_ok(hU:U.Ok)(β:Nat->Value){φ:Env U}:∀(o:P1 U) {s:St U} {k:St U->Option R} {r:R},o.real=false->FOk s->p1K φ o s k=some r ->
  ∃ s',Wks (absS β s) (absS β s')/\FOk s'/\k s'=some r
 | .a _ _,s,k,r,hr,hE,h=>by cases hr
 | .call _ _ _ _ _ _,s,k,r,hr,hE,h=>by cases hr
 | .callg _ _ _ _ _ _ _ _ _,s,k,r,hr,hE,h=>by cases hr
 | .gd _ _ _ _,s,k,r,hr,hE,h=>by cases hr
 | .pre _ _,s,k,r,hr,hE,h=>by cases hr
 | .cn d t,s,k,r,hr,hE,h=>by
  simp only[p1K]at h
  split at h
  ·rename_i x hx
   refine⟨_,?_,FOk_put hE,h⟩
   refine wks_T fun n=>?_
   simp only[St.put,lk_abs]
   by_cases e:n=d
   ·subst e
    rw[lkN_eq]
    exact(asT_le hU hx).1
   ·rw[lkN_ne e];exact .refl _
  ·cases h
 | .adT d tid e,s,k,r,hr,hE,h=>by
  simp only[p1K]at h
  split at h
  ·rename_i e0 hx
   cases hb:Nat.blt 0 (U.sz e)<;>rw[hb]at h
   ·exact(none_some h).elim
   ·have hb:0<U.sz e:=by simpa [Nat.blt_eq] using hb
    refine⟨_,?_,FOk_cons (FOk_H hE),h⟩
    have:=Wks.adopt (T:=absT s.T) (H:=absH β 0 s.H) d tid (U.sz e) (by rw[lk_abs,hx];rfl) hb
    simp only[absS,absH_app,absH,Nat.zero_add,absT,N.abs,absB,List.map_nil]
    rw[absH_len]at this
    exact this
  ·exact⟨_,.refl _,hE,h⟩
  ·cases h
 | .adB q p tid e,s,k,r,hr,hE,h=>by
  simp only[p1K]at h
  split at h
  ·rename_i tid' n hq
   split at h
   ·rename_i e0 hg
    split at h
    ·rename_i n' hs
     cases hb:Nat.blt 0 (U.sz e)<;>rw[hb]at h
     ·exact(none_some h).elim
     ·have hb:0<U.sz e:=by simpa [Nat.blt_eq] using hb
      obtain⟨a,o,b,k1,k2,k3,k4,k5⟩:=set_cells hU hs
      obtain⟨a',b',q1,q2⟩:=get_cells hU hg
      have hcells:(N.ns e0:N U).cells=[.nils]:=rfl
      have hrow:(N.row s.H.length:N U).cells=[.row s.H.length]:=rfl
      rw[hcells]at q1
      rw[k1]at q1
      have haa:a=a':=(List.append_inj q1 (by rw[k2,q2])).1
      subst haa
      have q1:=List.append_cancel_left q1
      have ho:o=[.nils]:=(List.append_inj q1 (by rw[k3];rfl)).1
      subst ho
      refine⟨_,?_,FOk_H hE,h⟩
      have:=Wks.adoptB (T:=absT s.T) (H:=absH β 0 s.H) q tid' n.cells a.length tid (U.sz e) (by rw[absH_get,hq];rfl) (by rw[k1];simp) hb
      have e2:n.cells.set a.length (.row s.H.length)=n'.cells:=by
       rw[k1,k4,hrow];simp
      rw[absH_len,e2]at this
      simp only[absS,absH_app,absH_set,absH,Nat.zero_add,absB,List.map_nil]
      exact this
    ·cases h
   ·exact⟨_,.refl _,hE,h⟩
   ·cases h
  ·cases h
 | .pad,s,k,r,hr,hE,h=>by
  refine⟨_,?_,FOk_H hE,h⟩
  simp only[absS,absH_app,absH,absB]
  exact Wks.pad _ _
 | .tr d,s,k,r,hr,hE,h=>by
  simp only[p1K]at h
  split at h
  ·rename_i q e lo n hx
   split at h
   ·rename_i tid e' l hq
    cases hc:(Nat.beq lo 0 && Nat.beq (U.sz e) (U.sz e') && !roMen q s.H)<;>rw[hc]at h
    ·exact(none_some h).elim
    ·simp only[Bool.and_eq_true,Bool.not_eq_true']at hc
     obtain rfl:=Nat.eq_of_beq_eq_true hc.1.1
     have hsz:=Nat.eq_of_beq_eq_true hc.1.2
     simp only[cond_true]at h
     split at h
     ·rename_i hn
      refine⟨_,?_,FOk_cons (FOk_T (T:=s.T) (H:=s.H) (fun n=>?_) (fun n m h=>by rw[lkN_sb,lkN_sb,h]) hE),h⟩
      ·have hrow:(absH β 0 s.H)[q]? = some (.row tid (U.sz e) (l.map (U.C e'))):=by rw[absH_get,hq];simp only[Option.map_some,absB,hsz]
       have:=Wks.trunc (T:=absT s.T) (H:=absH β 0 s.H) d (by rw[lk_abs,hx];rfl) hrow (by simpa using hn)
       simp only[absS,absT,absT_sb hU q (y:=.u) rfl,absH_set,absH_sb hU β q (y:=.u) rfl s.H 0 hc.2,Nat.zero_add,absB,N.abs,<-hsz]
       rwa [<-List.map_take,sbE_C hU]at this
      ·rw[lkN_sb];exact intN_sb q ⟨rfl,rfl⟩ _
     ·exact(none_some h).elim
   ·exact(none_some h).elim
  ·exact⟨_,.refl _,hE,h⟩
  ·exact⟨_,.refl _,hE,h⟩
  ·exact(none_some h).elim
 | .perm sel,s,k,r,hr,hE,h=>by
  simp only[p1K]at h
  cases hc:(nodupN sel && noPin (selHN sel s.H) && noRo s.H)<;>rw[hc]at h
  ·exact(none_some h).elim
  ·simp only[Bool.and_eq_true]at hc
   refine⟨_,?_,FOk_T (T:=s.T) (H:=s.H) (fun n=>by rw[lkN_rn];exact intN_rn _ _) (fun n m h=>by rw[lkN_rn,lkN_rn,h]) hE,h⟩
   simp only[absS,absT_rn hU,abs_sel hU β β hc.1.2]
   exact Wks.perm (nodupN_ok hc.1.1)
 | .nl d q,s,k,r,hr,hE,h=>by
  simp only[p1K]at h
  split at h
  ·rename_i e0 hx
   split at h
   ·rename_i tid e' l hq
    cases hc:roMen q s.H<;>rw[hc]at h
    ·refine⟨_,?_,FOk_cons (FOk_T (T:=s.T) (H:=s.H) (fun n=>?_) (fun n m h=>by rw[lkN_sb,lkN_sb,h]) hE),h⟩
     ·have hrow:(absH β 0 s.H)[q]? = some (.row tid (U.sz e') (l.map (U.C e'))):=by rw[absH_get,hq];simp only[Option.map_some,absB]
      have:=Wks.niln (T:=absT s.T) (H:=absH β 0 s.H) d (by rw[lk_abs,hx];rfl) hrow
      simp only[absS,absT,absT_sb hU q (y:=.u) rfl,absH_set,absH_sb hU β q (y:=.u) rfl s.H 0 hc,Nat.zero_add,absB,N.abs,List.map_nil]
      exact this
     ·rw[lkN_sb];exact intN_sb q ⟨rfl,rfl⟩ _
    ·exact(none_some h).elim
   ·exact(none_some h).elim
  ·exact⟨_,.refl _,hE,h⟩
  ·exact(none_some h).elim
 | .fz q t,s,k,r,hr,hE,h=>by
  simp only[p1K]at h
  split at h
  ·rename_i tid e l hq
   cases hm:roMen q s.H<;>rw[hm]at h
   ·simp only[Bool.not_false,cond_true]at h
    split at h
    ·rename_i x hx
     have hv:=hU.inj_ok _ _ _ hx
     have hV:=C_lst hU hv
     have hi:intN (.v t x:N U)=none/\boolN (.v t x:N U)=none:=by
      constructor<;>simp only[intN,boolN,hv]
     have hc:cellsOf (N.v t x:N U).abs=[(N.v t x:N U).abs]:=by simp only[N.abs,hV];rfl
     refine⟨_,?_,FOk_T (T:=s.T) (H:=s.H) (fun n=>by rw[lkN_sb];exact intN_sb q hi _) (fun n m h=>by rw[lkN_sb,lkN_sb,h]) hE,h⟩
     have hrow:(absH β 0 s.H)[q]? = some (.row tid (U.sz e) (l.map (U.C e))):=by rw[absH_get,hq];rfl
     have:=Wks.frz (T:=absT s.T) (H:=absH β 0 s.H) hrow (pureE_C hU e l)
     simp only[absS,absT_sb hU q hc,absH_set,absH_sb hU β q hc s.H 0 hm,Nat.zero_add,absB,N.abs,hV]
     exact this
    ·exact(none_some h).elim
   ·exact(none_some h).elim
  ·rename_i qq kt vt l hq
   cases hm:roMen q s.H<;>rw[hm]at h
   ·simp only[Bool.not_false,cond_true]at h
    split at h
    ·rename_i x hx
     have hv:=hU.inj_ok _ _ _ hx
     have hV:=V_map hU hv
     have hi:intN (.v t x:N U)=none/\boolN (.v t x:N U)=none:=by
      constructor<;>simp only[intN,boolN,hv]
     have hc:cellsOf (N.v t x:N U).abs=[(N.v t x:N U).abs]:=by simp only[N.abs,hV];rfl
     refine⟨_,?_,FOk_T (T:=s.T) (H:=s.H) (fun n=>by rw[lkN_sb];exact intN_sb q hi _) (fun n m h=>by rw[lkN_sb,lkN_sb,h]) hE,h⟩
     have hrow:(absH β 0 s.H)[q]? = some (.map qq (entM kt vt l)):=by rw[absH_get,hq];rfl
     have:=Wks.frzM (T:=absT s.T) (H:=absH β 0 s.H) hrow
     simp only[absS,absT_sb hU q hc,absH_set,absH_sb hU β q hc s.H 0 hm,Nat.zero_add,absB,N.abs,hV]
     exact this
    ·exact(none_some h).elim
   ·exact(none_some h).elim
  ·exact⟨_,.refl _,hE,h⟩
  ·exact(none_some h).elim
theorem p1_ok(hU:U.Ok)(β:Nat->Value){φ:Env U}(hS:SndE P φ):∀(o:P1 U) {s:St U} {k:St U->Option R} {r:R},o.real=true->FOk s->p1K φ o s k=some r ->
  wp1 P o.er (absS β s) (fun t=>∃ s',Eqv (absS β s') t/\FOk s'/\k s'=some r)
 | .a d o,s,k,r,_,hE,h=>by
  obtain⟨s',h1,h2,h3⟩:=avK_ok hU β hE (show avK o d s k=some r from h)
  simp only[P1.er,wp1,h3,optK]
  exact⟨s',.refl _,h2,h1⟩
 | .call md d c args as rs,s,k,r,_,hE,h=>by
  refine wp1_mono (call_ok' hU β hS hE (show callK' φ md d (s.ev c) (args.map s.ev) as rs s k=some r from h)) ?_
  rintro t ⟨s',rfl,h2,h3⟩
  exact⟨s',.refl _,h2,h3⟩
 | .callg vr d c args sel hi as ho rs,s,k,r,_,hE,h=>by
  refine wp1_mono (call_okG hU β hS hE (show callG' φ vr d (s.ev c) (args.map s.ev) sel hi as ho rs s k=some r from h)) ?_
  rintro t ⟨s',rfl,h2,h3⟩
  exact⟨s',.refl _,h2,h3⟩
 | .gd g w d o,s,k,r,hr,hE,h=>by
  simp only[p1K]at h
  cases hr:o.real<;>rw[hr]at h
  ·exact(none_some h).elim
  simp only[cond_true]at h
  simp only[P1.er,wp1,gdK]
  have hlk:lk (absS β s).T g=(lkN s.T g).abs:=lk_abs _ _
  split at h
  ·rename_i b hb
   have hq:∀ E,Eqv (absS β (⟨(g,.v U.tb (U.bv b))::s.T,s.H,E⟩:St U)) (absS β s):=fun E=>eqv_brG β hU hb
   have hEb:∀ v,FOk (⟨(g,v)::s.T,s.H,clr g s.E⟩:St U):=fun v=>FOk_cons hE
   have yes:p1K φ o (brG s g b) k=some r->wp1 P o.er (absS β s) (fun t=>∃ s',Eqv (absS β s') t/\FOk s'/\k s'=some r):=fun h=>by
    refine wp1_congr (p1_ok hU β hS o hr (hEb _) h) (hq _) ?_
    rintro t t' ht ⟨s',h1,h2⟩
    exact⟨s',h1.trans ht,h2⟩
   have no:k ((brG s g b).put d (.tup []))=some r->∃ s',Eqv (absS β s') (Ab.put (absS β s) d (.tup []))/\FOk s'/\k s'=some r:=fun h=>by
    refine⟨_,?_,FOk_put (hEb _),h⟩
    rw[put_abs]
    exact(hq _).put d _
   rw[hlk,boolN_ok hU hb]
   cases b<;>cases w<;>simp only[cond_true,cond_false]at h<;>simp[gdW]
   ·exact yes h
   ·exact no h
   ·exact no h
   ·exact yes h
  ·cases ht:isTup0 (lkN s.T g)<;>rw[ht]at h
   ·exact(none_some h).elim
   ·rw[hlk,isTup0_ok ht]
    simp[gdW]
    exact⟨_,by rw[put_abs];exact .refl _,FOk_put hE,h⟩
 | .pre p o,s,k,r,hr,hE,h=>by
  simp only[p1K]at h
  cases hc:(!p.real && o.real)<;>rw[hc]at h
  ·exact(none_some h).elim
  simp only[cond_true]at h
  simp only[Bool.and_eq_true,Bool.not_eq_true']at hc
  obtain⟨s',h1,h2,h3⟩:=pseudo_ok hU β p hc.1 hE h
  exact⟨_,h1,p1_ok hU β hS o hc.2 h2 h3⟩
theorem alF_mem{g i:Nat}{f0:Fct}:∀ {E:List (Nat×Fct)} {d:Nat} {f:Fct},(d,f)∈alF g i f0 E->f=f0/\d≠g/\(i,Fct.eq d)∈E
 | [],d,f,h=>by cases h
 | (d',f')::E,d,f,h=>by
  have ih:=fun h=>alF_mem (g:=g) (i:=i) (f0:=f0) (E:=E) (d:=d) (f:=f) h
  have wk:f=f0/\d≠g/\(i,Fct.eq d)∈E->f=f0/\d≠g/\(i,Fct.eq d)∈(d',f')::E:=fun h=>⟨h.1,h.2.1,List.mem_cons_of_mem _ h.2.2⟩
  cases f' with
  | eq j =>
   simp only[alF]at h
   cases hc:(Nat.beq d' i && !Nat.beq j g)<;>rw[hc]at h
   ·exact wk (ih h)
   ·simp only[Bool.and_eq_true,Bool.not_eq_true']at hc
    rcases List.mem_cons.1 h with e|h
    ·cases e
     have:=Nat.eq_of_beq_eq_true hc.1
     subst this
     exact⟨rfl,men_ne hc.2,List.mem_cons_self ..⟩
    ·exact wk (ih h)
  | _=>exact wk (ih h)
def Told(E:List (Nat×Fct))(g d:Nat)(f:Fct):Prop:=f=.bnd/\((∃ j,(g,Fct.lt d j)∈E)\/(g,Fct.ltc d)∈E)\/f=.pos/\(g,Fct.gt d)∈E
theorem brF{s:St U}(g:Nat):∀(E:List (Nat×Fct)),(∀ p∈E,p∈s.E)->∀ d f,(d,f)∈newF s.E g E->d≠g/\(Told s.E g d f\/∃ i,i≠g/\Told s.E g i f/\(i,Fct.eq d)∈s.E)
 | [],_,d,f,h=>by cases h
 | (d',f')::E,hs,d,f,h=>by
  have ih:=brF g E (fun p hp=>hs p (List.mem_cons_of_mem _ hp)) d f
  simp only[newF]at h
  cases hd:Nat.beq d' g<;>rw[hd]at h
  ·exact ih h
  ·have h0:(g,f')∈s.E:=by
    have:=hs _ (List.mem_cons_self ..)
    rwa [Nat.eq_of_beq_eq_true hd]at this
   simp only[cond_true]at h
   have main:∀ {i:Nat} {f0:Fct},Nat.beq i g=false->Told s.E g i f0->(d,f)∈(i,f0)::alF g i f0 s.E++newF s.E g E->d≠g/\(Told s.E g d f\/∃ i,i≠g/\Told s.E g i f/\(i,Fct.eq d)∈s.E):=by
    intro i f0 hi ht h
    rcases List.mem_append.1 h with h|h
    ·rcases List.mem_cons.1 h with e|h
     ·cases e;exact⟨men_ne hi,.inl ht⟩
     ·obtain⟨rfl,h2,h3⟩:=alF_mem h
      exact⟨h2,.inr ⟨i,men_ne hi,ht,h3⟩⟩
    ·exact ih h
   cases f' with
   | lt i j =>
    simp only at h
    cases hi:Nat.beq i g<;>rw[hi]at h
    ·exact main hi (.inl ⟨rfl,.inl ⟨j,h0⟩⟩) h
    ·exact ih h
   | ltc i =>
    simp only at h
    cases hi:Nat.beq i g<;>rw[hi]at h
    ·exact main hi (.inl ⟨rfl,.inr h0⟩) h
    ·exact ih h
   | gt i =>
    simp only at h
    cases hi:Nat.beq i g<;>rw[hi]at h
    ·exact main hi (.inr ⟨rfl,h0⟩) h
    ·exact ih h
   | bnd=>exact ih h
   | pos=>exact ih h
   | eq i=>exact ih h
theorem br_ok(hU:U.Ok)(β:Nat->Value){s:St U}{c:Od U}{b:Bool}(hE:FOk s)(hF:FitS (absS β s))(h:boolN (s.ev c)=some b):Eqv (absS β (br s c b)) (absS β s)/\FOk (br s c b):=by
 cases c with
 | c x=>exact⟨.refl _,hE⟩
 | t g =>
  refine⟨eqv_brG β hU h,?_⟩
  have base:FOk (⟨(g,.v U.tb (U.bv b))::s.T,s.H,clr g s.E⟩:St U):=FOk_cons hE
  simp only[br]
  cases b with
  | false=>exact base
  | true =>
   intro d f hf
   rcases List.mem_append.1 hf with hf|hf
   ·obtain⟨hne,hk⟩:=brF g s.E (fun _ h=>h) d f hf
    have hb:boolN (lkN s.T g)=some true:=h
    have fit:∀(n:Nat) {t:U.T} {k:IntKind} {a:Int},intN (lkN s.T n)=some (t,k,a)->k.min<=a/\a<=k.max:=by
     intro n t k a hn
     have:=hF.t n
     rw[show(absS β s).T=absT s.T from rfl,lk_abs,intN_ok hU hn]at this
     exact this
    have told:∀ {i:Nat} {f:Fct},Told s.E g i f->(f=.bnd/\∃ t k a,intN (lkN s.T i)=some (t,k,a)/\k.min<=a/\a<k.max)\/(f=.pos/\∃ t k a,intN (lkN s.T i)=some (t,k,a)/\0<a/\a<=k.max):=by
     intro i f hk
     rcases hk with⟨rfl,⟨j,hk⟩|hk⟩|⟨rfl,hk⟩
     ·obtain⟨ti,k,a,tj,m,h1,h2,h3⟩:=hE _ _ hk
      rw[hb]at h3
      have hlt:a<m:=by simpa using h3.symm
      have:=(fit _ h2).2
      exact .inl ⟨rfl,ti,k,a,h1,(fit _ h1).1,by omega⟩
     ·obtain⟨ti,k,a,m,h1,h3,h4⟩:=hE _ _ hk
      rw[hb]at h3
      have hlt:a<m:=by simpa using h3.symm
      exact .inl ⟨rfl,ti,k,a,h1,(fit _ h1).1,by omega⟩
     ·obtain⟨ti,k,a,m,h1,h3,h4⟩:=hE _ _ hk
      rw[hb]at h3
      have hlt:m<a:=by simpa using h3.symm
      exact .inr ⟨rfl,ti,k,a,h1,by omega,(fit _ h1).2⟩
    have put:∀ {i:Nat},lkN s.T i=lkN s.T d->Told s.E g i f->f.ok (⟨(g,.v U.tb (U.bv true))::s.T,s.H,bif true then newF s.E g s.E++clr g s.E else clr g s.E⟩:St U) d:=by
     intro i he ht
     rcases told ht with⟨rfl,t,k,a,h1,h2⟩|⟨rfl,t,k,a,h1,h2⟩
     ·exact⟨t,k,a,by simp only;rw[lkN_ne hne,<-he];exact h1,h2⟩
     ·exact⟨t,k,a,by simp only;rw[lkN_ne hne,<-he];exact h1,h2⟩
    rcases hk with hk|⟨i,hi,hk,he⟩
    ·exact put rfl hk
    ·exact put (hE _ _ he) hk
   ·exact base d f hf
section
variable {Γ : Ctx} {n:Nat} {β:Nat->Value} {φ:Env U}
theorem wpo_eqv(hU:U.Ok)(hS:SndE P φ):∀(l:List (P1 U)) {s:St U} {k:St U->Option R} {r:R},allReal l=true->FOk s->runO φ l s k=some r->∀ {t:AS},Eqv (absS β s) t ->
  wpo P (erL l) t (fun t=>∃ s',Eqv (absS β s') t/\FOk s'/\k s'=some r)
 | [],s,k,r,_,hE,h,t,ht=>⟨s,ht,hE,h⟩
 | o::l,s,k,r,hr,hE,h,t,ht=>by
  simp only[allReal,Bool.and_eq_true]at hr
  simp only[runO]at h
  have:=p1_ok hU β hS o hr.1 hE h
  simp only[erL,hr.1,cond_true,wpo]
  refine wp1_congr this ht ?_
  rintro u u' hu ⟨s',h1,h2,h3⟩
  exact wpo_eqv hU hS l hr.2 h2 h3 (h1.trans hu)
theorem ops_ok(hU:U.Ok)(hS:SndE P φ){all:Array Oper}:∀(l:List (P1 U)) (os:List Oper),opsOk P n all os (erL l)=true->∀ {s:St U} {k:St U->Option R} {r:R},runO φ l s k=some r->FOk s->∀ {a:Act} {w:World},Good Γ n (absS β s) a w ->
  ∀ {E:Exit->Act->World->Prop},(∀ a' w' s',k s'=some r->FOk s'->Good Γ n (absS β s') a' w'->E .normal a' w')->wpList P all E os a w
 | [],os,hk,s,k,r,h,hE,a,w,G,E,hK=>by
  cases os with
  | nil=>exact hK _ _ s h hE G
  | cons o os=>simp[erL,opsOk]at hk
 | o::l,os,hk,s,k,r,h,hE,a,w,G,E,hK=>by
  simp only[runO]at h
  cases hr:o.real
  ·simp only[erL,hr,cond_false]at hk
   obtain⟨s',h1,h2,h3⟩:=pseudo_ok hU β o hr hE h
   exact ops_ok hU hS l os hk h3 h2 (h1 _ _ _ _ G) hK
  ·simp only[erL,hr,cond_true]at hk
   cases os with
   | nil=>simp[opsOk]at hk
   | cons oo os =>
    simp only[opsOk,Bool.and_eq_true]at hk
    unfold wpList
    refine gd_sound G hk.1 (p1_ok hU β hS o hr hE h) ?_
    rintro a' w' t ⟨s',h1,h2,h3⟩ G'
    exact ops_ok hU hS l os hk.2 h3 h2 (Good.eqv G' h1.symm) hK
theorem ps_ok(hU:U.Ok):∀(l:List (P1 U)),noReal l=true->∀ {s:St U} {k:St U->Option R} {r:R},runO φ l s k=some r->FOk s->∃ s',Wks (absS β s) (absS β s')/\FOk s'/\k s'=some r
 | [],_,s,k,r,h,hE=>⟨s,.refl _,hE,h⟩
 | o::l,hn,s,k,r,h,hE=>by
  simp only[noReal,Bool.and_eq_true,Bool.not_eq_true']at hn
  simp only[runO]at h
  obtain⟨s1,h1,h2,h3⟩:=pseudo_ok hU β o hn.1 hE h
  obtain⟨s2,k1,k2,k3⟩:=ps_ok hU l hn.2 h3 h2
  exact⟨s2,h1.trans k1,k2,k3⟩
end
end
end Go.Ab.X
