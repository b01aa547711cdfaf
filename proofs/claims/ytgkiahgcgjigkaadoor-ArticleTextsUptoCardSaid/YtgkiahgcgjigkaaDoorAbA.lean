/- A part of the proof: AbA. -/
import Derived.WalkKit
import Derived.RangeFuncNested
import Derived.RangeFuncLeaves
import Derived.Below
import Derived.Maps.AppendAt
import Derived.Deep.Draws
import Derived.KernelRfl
set_option linter.all false
set_option linter.unusedVariables false
namespace Go.Ab
open Go.RowKit
def LIM:Nat:=2147483647
inductive AV where
 | u
 | i (k:IntKind) (n:Int)
 | b (x:Bool)
 | s (x:ByteArray)
 | agg (cs:List AV)
 | tup (vs:List AV)
 | sl (t:Bool) (sz:Nat) (els:List (List AV))
 | nils
 | row (r:Nat)
 | ptr (r j:Nat)
 | rptr (r sz i j:Nat)
 | ip (p:Bool) (cs:List AV)
 | nilp
 | fn (f:Fn) (first caps:List AV)
 | nilf
 | nili
 | ub
 | rv (r sz lo n:Nat)
 | mv (q:Option IntKind) (es:List (List AV))
 deriving Inhabited
inductive AB where
 | gone
 | pin (r:Nat) (B:Value)
 | box (t:TypeId) (cs:List AV)
 | row (e:TypeId) (sz:Nat) (els:List (List AV))
 | map (q:Option IntKind) (es:List (List AV))
 deriving Inhabited
inductive Opd where
 | t (n:Nat)
 | c (v:AV)
 deriving Inhabited
inductive K where
 | mv (x:Opd)
 | bx (x:Opd)
 | bxm (t:TypeId) (x:Opd)
 | alm (t:TypeId) (cs:List AV)
 | bld (zero:List AV) (ps:List (Nat×Nat×Opd))
 | bsl (sz:Nat) (xs:List Opd)
 | ld (a:Opd) (n:Nat) (g:Bool)
 | st (a:Opd) (n:Nat) (x:Opd)
 | stb (a:Opd) (n:Nat) (x:Opd)
 | ste (a:Opd) (n:Nat) (x:Opd)
 | fa (a:Opd) (off:Nat)
 | fld (x:Opd) (off n:Nat) (g:Bool)
 | ia (sz:Nat) (x ix:Opd)
 | ix (x ix:Opd)
 | nc (x:Opd)
 | bi (op:BinOp) (x y:Opd)
 | bib (op:BinOp) (x y:Opd)
 | un (op:UnOp) (x:Opd)
 | cvi (k:IntKind) (x:Opd)
 | cvr (x:Opd)
 | cvb (x:Opd)
 | mks (e:TypeId) (sz:Nat) (zero:List AV) (x:Opd)
 | slc (sz:Nat) (x:Opd) (lo hi mx:Option Opd)
 | slcs (x:Opd) (lo hi:Option Opd)
 | len (x:Opd)
 | lens (x:Opd)
 | app (e:TypeId) (sz:Nat) (s x:Opd)
 | apt (e:TypeId) (sz:Nat) (s x:Opd)
 | mx (x y:Opd)
 | mn (x y:Opd)
 | ext (x:Opd) (n:Nat)
 | mkf (f:Fn) (first caps:List Opd)
 | pk (c x y:Opd)
 | ldi (a:Opd) (n:Nat) (g:Bool)
 | eqn (ng:Bool) (x:Opd)
 | rsl (sz:Nat) (x:Opd) (lo hi mx:Option Opd)
 | clr (sz:Nat) (zero:List AV) (x:Opd)
 | apv (e:TypeId) (sz:Nat) (s x:Opd)
 | bsr (e:TypeId) (sz:Nat)
 | eqp (ng:Bool) (x y:Opd)
 | eqs (ng:Bool) (n:Nat) (x y:Opd)
 | eqf (ng:Bool) (ks:List Nat) (x y:Opd)
 | mkc (e:TypeId) (sz:Nat) (x:Opd)
 | apz (e:TypeId) (sz:Nat) (zero:List AV) (s x:Opd)
 | capn (x:Opd)
 | sln (x:Opd) (hi:Opd)
 | shr (x:Opd)
 | ldd (a:Opd) (n:Nat) (g:Bool) (bs:List Opd)
 | mkm (q:Option IntKind)
 | mup (q:Option IntKind) (m k v:Opd)
 | mlk (q:Option IntKind) (zero:AV) (ok:Bool) (m k:Opd)
 | mln (m:Opd)
 | stuck
 deriving Inhabited
inductive SOp where
 | op (d:Option Nat) (k:K)
 | call (d:Option Nat) (c:Opd) (args:List Opd)
 | callr (d:Option Nat) (c:Opd) (args:List Opd)
 | callo (d:Option Nat) (c:Opd) (args:List Opd)
 | gd (g:Nat) (w:Bool) (d:Option Nat) (o:SOp)
 | wk (o:SOp)
 deriving Inhabited
inductive SCode where
 | skip
 | ops (l:List SOp)
 | draw (l:List SOp)
 | seq (a b:SCode)
 | cond (c:Opd) (x y:SCode)
 | block (id:Nat) (c:SCode)
 | loop (c:SCode)
 | exit (id:Nat)
 | ret
 | wk (c:SCode)
 deriving Inhabited
structure AS where
 T:List (Nat×AV)
 H:List AB
def lk:List (Nat×AV)->Nat->AV
 | [],_=>.u
 | (k,v)::l,n=>bif n == k then v else lk l n
def put(st:AS)(d:Option Nat)(v:AV):AS:=
 match d with
 | some k=>{ st with T:=(k,v)::st.T }
 | none=>st
def AS.ev(st:AS):Opd->AV
 | .t n=>lk st.T n
 | .c v=>v
mutual
def pureB:AV->Bool
 | .u=>false
 | .agg cs=>pureL cs
 | .tup cs=>pureL cs
 | .sl _ _ els=>pureE els
 | .ip _ cs=>pureL cs
 | .fn _ a b=>pureL a && pureL b
 | .row _=>false
 | .ptr _ _=>false
 | .rptr _ _ _ _=>false
 | .i _ _=>true
 | .b _=>true
 | .s _=>true
 | .nils=>true
 | .nilp=>true
 | .nilf=>true
 | .nili=>true
 | .ub=>false
 | .rv _ _ _ _=>false
 | .mv _ es=>pureE es
def pureL:List AV->Bool
 | []=>true
 | c::cs=>pureB c && pureL cs
def pureE:List (List AV)->Bool
 | []=>true
 | c::cs=>pureL c && pureE cs
end
mutual
def sb(r:Nat)(y:AV):AV->AV
 | .agg cs=>.agg (sbL r y cs)
 | .tup cs=>.tup (sbL r y cs)
 | .sl t sz els=>.sl t sz els
 | .ip p cs=>.ip p cs
 | .fn f a b=>.fn f (sbL r y a) (sbL r y b)
 | .row q=>bif q == r then y else .row q
 | .rptr q sz i j=>bif q == r then .u else .rptr q sz i j
 | .u=>.u
 | .ptr q j=>.ptr q j
 | .i k n=>.i k n
 | .b x=>.b x
 | .s x=>.s x
 | .nils=>.nils
 | .nilp=>.nilp
 | .nilf=>.nilf
 | .nili=>.nili
 | .ub=>.ub
 | .rv q sz lo n=>bif q == r then .u else .rv q sz lo n
 | .mv q es=>.mv q es
def sbL(r:Nat)(y:AV):List AV->List AV
 | []=>[]
 | c::cs=>sb r y c::sbL r y cs
def sbE(r:Nat)(y:AV):List (List AV)->List (List AV)
 | []=>[]
 | c::cs=>sbL r y c::sbE r y cs
end
def sbT(r:Nat)(y:AV):List (Nat×AV)->List (Nat×AV)
 | []=>[]
 | (k,v)::l=>(k,sb r y v)::sbT r y l
def sbB(r:Nat)(y:AV):AB->AB
 | .gone=>.gone
 | .pin q B=>bif q == r then .gone else .pin q B
 | .box t cs=>.box t (sbL r y cs)
 | .row e sz els=>.row e sz (sbE r y els)
 | .map q es=>.map q es
def sbH(r:Nat)(y:AV):List AB->List AB
 | []=>[]
 | x::l=>sbB r y x::sbH r y l
mutual
def sh(n:Nat):AV->AV
 | .agg cs=>.agg (shL n cs)
 | .tup cs=>.tup (shL n cs)
 | .fn f a b=>.fn f (shL n a) (shL n b)
 | .row r=>.row (n+r)
 | .ptr r j=>.ptr (n+r) j
 | .rptr r sz i j=>.rptr (n+r) sz i j
 | .sl t sz els=>.sl t sz els
 | .ip p cs=>.ip p cs
 | .u=>.u
 | .i k m=>.i k m
 | .b x=>.b x
 | .s x=>.s x
 | .nils=>.nils
 | .nilp=>.nilp
 | .nilf=>.nilf
 | .nili=>.nili
 | .ub=>.ub
 | .rv r sz lo m=>.rv (n+r) sz lo m
 | .mv q es=>.mv q es
def shL(n:Nat):List AV->List AV
 | []=>[]
 | c::cs=>sh n c::shL n cs
end
def shE(n:Nat):List (List AV)->List (List AV)
 | []=>[]
 | c::cs=>shL n c::shE n cs
def shB(n:Nat):AB->AB
 | .gone=>.gone
 | .pin q B=>.pin (n+q) B
 | .box t cs=>.box t (shL n cs)
 | .row e sz els=>.row e sz (shE n els)
 | .map q es=>.map q es
def cellsOf:AV->List AV
 | .agg cs=>cs
 | v=>[v]
def boxB:AV->Bool
 | .u=>false
 | .tup _=>false
 | _=>true
def bytesOf:List (List AV)->Option (List Int)
 | []=>some []
 | el::r=>match el with
  | [.i .u8 n]=>(bytesOf r).map (n::·)
  | _=>none
def bytesS(ns:List Int):ByteArray:=⟨(ns.map fun n=>UInt8.ofNat n.toNat).toArray⟩
def rdCells(cs:List AV)(n:Nat)(g:Bool):Option AV:=
 bif g then(if n<=cs.length then some (.agg (cs.take n))else none)else cs.head?
def blt(x y:ByteArray):Bool:=Op.bytesLess x.toList y.toList
def fills(ρ:Opd->AV):List (Nat×Nat×Opd)->List AV->Option (List AV)
 | [],cs=>some cs
 | (off,n,x)::ps,cs =>
  let v:=cellsOf (ρ x)
  if v.length=n/\off+n<=cs.length/\boxB (ρ x)=true then fills ρ ps (cs.take off++v++cs.drop (off+n))else none
def biI(op:BinOp)(k:IntKind)(a b:Int):Option AV:=
 match op with
 | .add=>some (.i k (k.wrap (a+b)))
 | .sub=>some (.i k (k.wrap (a-b)))
 | .mul=>some (.i k (k.wrap (a * b)))
 | .quo=>if b=0 then none else some (.i k (k.wrap (a.tdiv b)))
 | .rem=>if b=0 then none else some (.i k (a.tmod b))
 | .eql=>some (.b (decide (a=b)))
 | .neq=>some (.b (!decide (a=b)))
 | .lss=>some (.b (decide (a<b)))
 | .leq=>some (.b (decide (a<=b)))
 | .gtr=>some (.b (decide (b<a)))
 | .geq=>some (.b (decide (b<=a)))
 | _=>none
def biS(op:BinOp)(a b:ByteArray):Option AV:=
 match op with
 | .add=>if a.size+b.size<=LIM then some (.s (a++b))else none
 | .eql=>some (.b (decide (a=b)))
 | .neq=>some (.b (!decide (a=b)))
 | .lss=>some (.b (blt a b))
 | _=>none
def biB(op:BinOp)(a b:Bool):Option AV:=
 match op with
 | .eql=>some (.b (a == b))
 | .neq=>some (.b (!(a == b)))
 | _=>none
def bnd(ρ:Opd->AV)(d:Nat):Option Opd->Option Nat
 | none=>some d
 | some x=>match ρ x with
  | .i _ n=>if 0<=n then some n.toNat else none
  | _=>none
mutual
def neB:AV->AV->Bool
 | .i _ n,.i _ m=>n != m
 | .b x,.b y=>x != y
 | .s x,.s y=>!decide (x=y)
 | .nilp,.ip _ _=>true
 | .ip _ _,.nilp=>true
 | .ip _ cs,.ip _ ds=>neL cs ds
 | .sl _ _ e1,.sl _ _ e2=>e1.length != e2.length || neE e1 e2
 | _,_=>false
def neL:List AV->List AV->Bool
 | c::cs,d::ds=>neB c d || neL cs ds
 | _,_=>false
def neE:List (List AV)->List (List AV)->Bool
 | c::cs,d::ds=>c.length == d.length && (neL c d || neE cs ds)
 | _,_=>false
end
def othB(r:Nat):AV->Bool
 | .ptr q _=>!(q == r)
 | _=>false
def ansB(ng:Bool):Option Bool->AV
 | some b=>.b (ng ^^ b)
 | none=>.ub
def eqP:AV->AV->Option (Option Bool)
 | .nilp,.nilp=>some (some true)
 | .nilp,.ip _ _=>some (some false)
 | .ip _ _,.nilp=>some (some false)
 | .nilp,.ptr _ _=>some (some false)
 | .ptr _ _,.nilp=>some (some false)
 | .ip true cs,.ip true ds=>some (bif neL cs ds then some false else none)
 | _,_=>none
def eqC:List AV->List AV->Option (Option Bool)
 | [],[]=>some (some true)
 | c::cs,d::ds=>(eqP c d).bind fun r=>(eqC cs ds).map fun q=>match r,q with
  | some false,_=>some false
  | _,some false=>some false
  | some true,some true=>some true
  | _,_=>none
 | _,_=>none
def eqV:Nat->AV->AV->Option Bool
 | 0,.i k a,.i k' b=>if k=k' then some (decide (a=b))else none
 | 1,.b a,.b b=>some (a == b)
 | 2,.s a,.s b=>some (decide (a=b))
 | _,_,_=>none
def eqD:List Nat->List AV->List AV->Option Bool
 | [],[],[]=>some true
 | k::ks,c::cs,d::ds=>match eqV k c d with
  | some r=>match eqD ks cs ds with
   | some q=>some (r && q)
   | none=>none
  | none=>none
 | _,_,_=>none
def keyOk:Option IntKind->AV->Bool
 | none,.s _=>true
 | some k,.i k' _=>k == k'
 | _,_=>false
def keyEq:AV->AV->Bool
 | .s a,.s b=>decide (a=b)
 | .i _ a,.i _ b=>decide (a=b)
 | _,_=>false
def keysOk(q:Option IntKind):List (List AV)->Bool
 | []=>true
 | el::es=>(match el with
  | [k,_]=>keyOk q k
  | _=>false) && keysOk q es
def lkM(k:AV):List (List AV)->Option AV
 | []=>none
 | el::es=>match el with
  | [k',v]=>bif keyEq k k' then some v else lkM k es
  | _=>none
def upM(k v:AV):List (List AV)->List (List AV)
 | []=>[[k,v]]
 | el::es=>match el with
  | [k',v']=>bif keyEq k k' then [k',v]::es else [k',v']::upM k v es
  | _=>el::es
def mapOf(H:List AB):AV->Option (Option IntKind×List (List AV))
 | .mv q es=>some (q,es)
 | .row r=>match H[r]? with
  | some (.map q es)=>some (q,es)
  | _=>none
 | _=>none
def ov(ρ:Opd->AV)(H:List AB):K->Option AV
 | .mv x=>some (ρ x)
 | .bx x=>bif pureB (ρ x) && boxB (ρ x)then some (.ip false (cellsOf (ρ x)))else none
 | .bld zero ps=>(fills ρ ps zero).map .agg
 | .bsl sz xs =>
  let els:=xs.map fun x=>cellsOf (ρ x)
  bif pureE els && xs.all (fun x=>boxB (ρ x)) && els.all (fun el=>el.length == sz)then some (.sl true sz els)else none
 | .ld a n g=>match ρ a with
  | .ip _ cs=>rdCells cs n g
  | .ptr r j=>match H[r]? with
   | some (.box _ cs)=>rdCells (cs.drop j) n g
   | _=>none
  | .rptr r sz i j=>match H[r]? with
   | some (.row _ sz' els)=>bif sz == sz' then(match els[i]? with
    | some el=>rdCells (el.drop j) n g
    | none=>none)else none
   | _=>none
  | _=>none
 | .fa a off=>match ρ a with
  | .ip _ cs=>some (.ip false (cs.drop off))
  | .ptr r j=>some (.ptr r (j+off))
  | .rptr r sz i j=>some (.rptr r sz i (j+off))
  | _=>none
 | .fld x off n g=>match ρ x with
  | .agg cs=>if off+n<=cs.length then rdCells (cs.drop off) n g else none
  | _=>none
 | .ia sz x ix=>match ρ x,ρ ix with
  | .sl _ sz' els,.i _ n=>if 0<=n/\sz=sz' then(els[n.toNat]?).map (.ip false)else none
  | .row r,.i _ n=>match H[r]? with
   | some (.row _ sz' els)=>if 0<=n/\n<els.length/\sz=sz' then some (.rptr r sz n.toNat 0)else none
   | _=>none
  | .rv r sz' lo m,.i _ n=>if 0<=n/\n<m/\sz=sz' then some (.rptr r sz (lo+n.toNat) 0)else none
  | _,_=>none
 | .ix x ix=>match ρ x,ρ ix with
  | .s b,.i _ n=>if 0<=n then(b.data[n.toNat]?).map fun c=>.i .u8 c.toNat else none
  | _,_=>none
 | .nc x=>match ρ x with
  | .ip _ cs=>some (.ip false cs)
  | .ptr r j=>some (.ptr r j)
  | .fn (.func f) a b=>some (.fn (.func f) a b)
  | _=>none
 | .bi op x y=>match ρ x,ρ y with
  | .i k a,.i k' b=>if k=k' then biI op k a b else none
  | .s a,.s b=>biS op a b
  | _,_=>none
 | .bib op x y=>match ρ x,ρ y with
  | .b a,.b b=>biB op a b
  | _,_=>none
 | .un op x=>match op,ρ x with
  | .not,.b a=>some (.b (!a))
  | .neg,.i k n=>some (.i k (k.wrap (0-n)))
  | _,_=>none
 | .cvb x=>match ρ x with
  | .nils=>some (.s (bytesS []))
  | .sl _ _ els=>(bytesOf els).map fun ns=>.s (bytesS ns)
  | _=>none
 | .cvr x=>match ρ x with
  | .i _ n=>some (.s (Utf8.encode n))
  | _=>none
 | .cvi k x=>match ρ x with
  | .i _ n=>some (.i k (k.wrap n))
  | _=>none
 | .slc sz' x lo hi mx=>match ρ x with
  | .sl t sz els =>
   match bnd ρ 0 lo,bnd ρ els.length hi,bnd ρ els.length mx with
   | some l,some h,some m =>
    if l<=h/\h<=m/\m<=els.length/\(l=0\/sz=sz')then some (.sl (mx.isSome && h == m) sz ((els.take h).drop l))else none
   | _,_,_=>none
  | _=>none
 | .slcs x lo hi=>match ρ x with
  | .s b =>
   match bnd ρ 0 lo,bnd ρ b.size hi with
   | some l,some h=>if l<=h/\h<=b.size then some (.s (b.extract l h))else none
   | _,_=>none
  | _=>none
 | .len x=>match ρ x with
  | .sl _ _ els=>some (.i .i64 els.length)
  | .nils=>some (.i .i64 0)
  | .row r=>match H[r]? with
   | some (.row _ _ els)=>some (.i .i64 els.length)
   | _=>none
  | .rv _ _ _ n=>some (.i .i64 n)
  | _=>none
 | .lens x=>match ρ x with
  | .s b=>some (.i .i64 b.size)
  | _=>none
 | .mx x y=>match ρ x,ρ y with
  | .i k a,.i k' b=>if k=k' then some (.i k (max a b))else none
  | _,_=>none
 | .mn x y=>match ρ x,ρ y with
  | .i k a,.i k' b=>if k=k' then some (.i k (min a b))else none
  | _,_=>none
 | .ext x n=>match ρ x with
  | .tup vs=>vs[n]?
  | _=>none
 | .mkf f a b=>some (.fn f (a.map ρ) (b.map ρ))
 | .ldi a n g=>match ρ a with
  | .ip _ cs=>bif pureL cs then rdCells cs n g else none
  | _=>none
 | .pk c x y=>match ρ c with
  | .b c=>some (bif c then ρ x else ρ y)
  | _=>none
 | .eqn ng x=>match ρ x with
  | .nils=>some (.b (!ng))
  | .sl _ _ els=>some (bif els.isEmpty then .ub else .b ng)
  | .row r=>match H[r]? with
   | some (.row _ _ els)=>some (bif els.isEmpty then .ub else .b ng)
   | _=>none
  | .rv _ _ _ _=>some .ub
  | _=>none
 | .rsl sz x lo hi mx=>match ρ x with
  | .row r=>match H[r]? with
   | some (.row _ sz' els)=>match bnd ρ 0 lo,bnd ρ els.length hi,bnd ρ els.length mx with
    | some l,some h,some m=>if l<=h/\h<=m/\m<=els.length/\sz=sz' then some (bif mx.isSome then .u else .rv r sz l (h-l))else none
    | _,_,_=>none
   | _=>none
  | .rv r sz' lo' n'=>match H[r]? with
   | some (.row _ _ els)=>match bnd ρ 0 lo,bnd ρ n' hi,bnd ρ (bif lo' == 0 then els.length else n') mx with
    | some l,some h,some m=>if l<=h/\h<=m/\m<=(bif lo' == 0 then els.length else n')/\sz=sz' then some (bif mx.isSome then .u else .rv r sz (lo'+l) (h-l))else none
    | _,_,_=>none
   | _=>none
  | _=>none
 | .eqp ng x y=>(eqP (ρ x) (ρ y)).map (ansB ng)
 | .eqs ng n x y=>match ρ x,ρ y with
  | .agg cs,.agg ds=>bif Nat.beq cs.length n then(eqC cs ds).map (ansB ng)else none
  | _,_=>none
 | .eqf ng ks x y=>match ρ x,ρ y with
  | .agg cs,.agg ds=>(eqD ks cs ds).map fun b=>.b (ng ^^ b)
  | _,_=>none
 | .capn x=>match ρ x with
  | .nils=>some (.i .i64 0)
  | _=>none
 | .sln x hi=>match ρ x,ρ hi with
  | .nils,.i _ n=>if n=0 then some .nils else none
  | _,_=>none
 | .ldd a n g bs=>match ρ a with
  | .ptr r j=>bif bs.all fun b=>othB r (ρ b)then(match H[r]? with
   | some (.box _ cs)=>rdCells (cs.drop j) n g
   | _=>none)else none
  | _=>none
 | .shr x=>match ρ x with
  | .i k a=>some (.i k (a / 2))
  | _=>none
 | .mlk q zero ok m k=>match mapOf H (ρ m)with
  | some (q',es)=>bif q == q' && keyOk q (ρ k)then(match lkM (ρ k) es with
   | some v=>some (bif ok then .tup [v,.b true]else v)
   | none=>some (bif ok then .tup [zero,.b false]else zero))else none
  | none=>none
 | .mln m=>match mapOf H (ρ m)with
  | some (_,es)=>some (.i .i64 es.length)
  | none=>none
 | .apt _ sz s x=>match ρ x with
  | .sl _ sz' els2=>match ρ s with
   | .nils=>if els2.length<=LIM/\(els2=[]\/sz'=sz)then some (.sl false sz els2)else none
   | .sl true sz'' els=>if els.length+els2.length<=LIM/\(els2=[]\/sz'=sz)/\(els=[]\/sz''=sz)then some (.sl false sz (els++els2))else none
   | _=>none
  | .nils=>match ρ s with
   | .nils=>some (.sl false sz [])
   | .sl true sz'' els=>if els=[]\/sz''=sz then some (.sl false sz els)else none
   | _=>none
  | _=>none
 | _=>none
def quietK:K->Bool
 | .bxm _ _=>false
 | .alm _ _=>false
 | .st _ _ _=>false
 | .stb _ _ _=>false
 | .ste _ _ _=>false
 | .mks _ _ _ _=>false
 | .app _ _ _ _=>false
 | .clr _ _ _=>false
 | .bsr _ _=>false
 | .mkc _ _ _=>false
 | .apz _ _ _ _ _=>false
 | .apv _ _ _ _=>false
 | .mkm _=>false
 | .mup _ _ _ _=>false
 | _=>true
def wrCells(cs:List AV)(j:Nat)(v:List AV):List AV:=cs.take j++v++cs.drop (j+v.length)
def stS(st:AS)(a:Opd)(n:Nat)(x:Opd):Option AS:=
  let v:=cellsOf (st.ev x)
  bif v.length == n && boxB (st.ev x)then
   match st.ev a with
   | .ptr r j=>match st.H[r]? with
    | some (.box t cs)=>if j+n<=cs.length then some { st with H:=st.H.set r (.box t (wrCells cs j v)) } else none
    | _=>none
   | .rptr r sz i j=>match st.H[r]? with
    | some (.row e sz' els)=>bif sz == sz' then(match els[i]? with
     | some el=>if j+n<=el.length then some { st with H:=st.H.set r (.row e sz' (els.set i (wrCells el j v))) } else none
     | none=>none)else none
    | _=>none
   | _=>none
  else none
def sv(st:AS)(d:Option Nat):K->Option AS
 | .bxm t x =>
  bif boxB (st.ev x)then some (put { st with H:=st.H++[.box t (cellsOf (st.ev x))] } d (.ptr st.H.length 0))else none
 | .alm t cs=>some (put { st with H:=st.H++[.box t cs] } d (.ptr st.H.length 0))
 | .st a n x =>
  let v:=cellsOf (st.ev x)
  bif v.length == n && boxB (st.ev x)then
   match st.ev a with
   | .ptr r j=>match st.H[r]? with
    | some (.box t cs)=>if j+n<=cs.length then some { st with H:=st.H.set r (.box t (wrCells cs j v)) } else none
    | _=>none
   | .rptr r sz i j=>match st.H[r]? with
    | some (.row e sz' els)=>bif sz == sz' then(match els[i]? with
     | some el=>if j+n<=el.length then some { st with H:=st.H.set r (.row e sz' (els.set i (wrCells el j v))) } else none
     | none=>none)else none
    | _=>none
   | _=>none
  else none
 | .stb a n x=>match st.ev a with
  | .ptr _ _=>stS st a n x
  | _=>none
 | .ste a n x=>match st.ev a with
  | .rptr _ _ _ _=>stS st a n x
  | _=>none
 | .mks e sz zero x=>match st.ev x with
  | .i _ n=>if 0<=n/\n.toNat<=LIM then some (put { st with H:=st.H++[.row e sz (List.replicate n.toNat zero)] } d (.row st.H.length))else none
  | _=>none
 | .app e sz s x=>match st.ev x with
  | .sl _ sz' els2 =>
   match st.ev s with
   | .nils=>if els2.length<=LIM/\(els2=[]\/sz'=sz)then some (put { st with H:=st.H++[.row e sz els2] } d (.row st.H.length))else none
   | .sl true sz'' els=>if els.length+els2.length<=LIM/\els2≠[]/\sz'=sz/\(els=[]\/sz''=sz)then some (put { st with H:=st.H++[.row e sz (els++els2)] } d (.row st.H.length))else none
   | .row r=>match st.H[r]? with
    | some (.row e' szr els)=>if els.length+els2.length<=LIM/\e=e'/\szr=sz/\(els2=[]\/sz'=sz)then
      some (put { T:=sbT r .u st.T,H:=(sbH r .u st.H).set r (.row e sz (sbE r .u els++els2)) } d (.row r))else none
    | _=>none
   | _=>none
  | _=>none
 | .bsr e sz=>some (put { st with H:=st.H++[.row e sz []] } d (.row st.H.length))
 | .apz e sz zero s x=>match st.ev s,st.ev x with
  | .nils,.i _ n=>if 0<n/\n.toNat<=LIM then some (put { st with H:=st.H++[.row e sz (List.replicate n.toNat zero)] } d (.row st.H.length))else none
  | _,_=>none
 | .mkc e sz x=>match st.ev x with
  | .i _ n=>if 0<=n/\n.toNat<=LIM then some (put { st with H:=st.H++[.row e sz []] } d (.row st.H.length))else none
  | _=>none
 | .clr sz zero x=>match st.ev x with
  | .rv r sz' lo n=>match st.H[r]? with
   | some (.row e szr els)=>if lo+n<=els.length/\sz=szr/\sz'=szr then some (put { st with H:=st.H.set r (.row e szr (els.take lo++List.replicate n zero++els.drop (lo+n))) } d (.tup []))else none
   | _=>none
  | _=>none
 | .apv e sz s x=>match st.ev s,st.ev x with
  | .rv r sz1 0 i,.rv q sz2 j m=>match st.H[r]? with
   | some (.row e' szr els)=>if r=q/\i+m<=els.length/\j+m<=els.length/\e=e'/\sz=szr/\sz1=szr/\sz2=szr then some (put { st with H:=st.H.set r (.row e szr (els.take i++(els.drop j).take m++els.drop (i+m))) } d (.rv r sz 0 (i+m)))else none
   | _=>none
  | _,_=>none
 | .mkm q=>some (put { st with H:=st.H++[.map q []] } d (.row st.H.length))
 | .mup q m k v=>match st.ev m with
  | .row r=>match st.H[r]? with
   | some (.map q' es)=>bif q == q' && keyOk q (st.ev k) && pureB (st.ev v) && boxB (st.ev v)then(if es.length<LIM then some (put { st with H:=st.H.set r (.map q (upM (st.ev k) (st.ev v) es)) } d (.tup []))else none)else none
   | _=>none
  | _=>none
 | k=>(ov st.ev st.H k).map (put st d)
theorem sv_st{st:AS}{d:Option Nat}{a x:Opd}{n:Nat}:sv st d (.st a n x)=stS st a n x:=rfl
theorem stb_of{st s:AS}{d:Option Nat}{a x:Opd}{n:Nat}(h:sv st d (.stb a n x)=some s):(∃ r j,st.ev a=.ptr r j)/\sv st d (.st a n x)=some s:=by
 simp only[sv]at h
 split at h
 ·rename_i r j e;exact⟨⟨r,j,e⟩,h⟩
 ·cases h
theorem ste_of{st s:AS}{d:Option Nat}{a x:Opd}{n:Nat}(h:sv st d (.ste a n x)=some s):(∃ r sz i j,st.ev a=.rptr r sz i j)/\sv st d (.st a n x)=some s:=by
 simp only[sv]at h
 split at h
 ·rename_i r sz i j e;exact⟨⟨r,sz,i,j,e⟩,h⟩
 ·cases h
theorem of_stb{st:AS}{d:Option Nat}{a x:Opd}{n r j:Nat}(h:st.ev a=.ptr r j):sv st d (.stb a n x)=sv st d (.st a n x):=by
 rw[sv_st];simp only[sv,h]
theorem of_ste{st:AS}{d:Option Nat}{a x:Opd}{n r sz i j:Nat}(h:st.ev a=.rptr r sz i j):sv st d (.ste a n x)=sv st d (.st a n x):=by
 rw[sv_st];simp only[sv,h]
end Go.Ab
