/- A part of the proof: X1. -/
import Derived.Test.YtgkiahgcgjigkaaDoorAbU
import Derived.Test.YtgkiahgcgjigkaaDoorAbW
set_option linter.all false
set_option linter.all false
namespace Go.Ab.X
open Go.RowKit Go.Ab
inductive View(T:Type)(I:T->Type) where
 | int (k:IntKind) (n:Int)
 | bool (b:Bool)
 | str (s:ByteArray)
 | lst (e:T) (l:List (I e))
 | fds (fs:List (Sigma I))
 | opt (e:T) (o:Option (I e))
 | mp (q:Option IntKind) (kt vt:T) (sb:Bool) (l:List (I kt×I vt))
def View.isRec{T:Type}{I:T->Type}:View T I->Bool
 | .fds _=>true
 | .int _ _=>false
 | .bool _=>false
 | .str _=>false
 | .lst _ _=>false
 | .opt _ _=>false
 | .mp _ _ _ _ _=>false
section
variable {T:Type} {I:T->Type}
def cellsF(C:(t:T)->I t->List AV):List (Sigma I)->List AV
 | []=>[]
 | f::fs=>C f.1 f.2++cellsF C fs
def cellsV(C:(t:T)->I t->List AV)(sz:T->Nat):View T I->List AV
 | .int k n=>[.i k n]
 | .bool b=>[.b b]
 | .str s=>[.s s]
 | .lst e l=>[.sl false (sz e) (l.map (C e))]
 | .fds fs=>cellsF C fs
 | .opt e none=>[.nilp]
 | .opt e (some x)=>[.ip true (C e x)]
 | .mp q kt vt sb l=>[.mv q (l.map fun p=>[(C kt p.1).headD .u,bif sb then .agg (C vt p.2)else(C vt p.2).headD .u])]
end
structure Uni where
 T:Type
 I:T->Type
 dec:(a b:T)->Decidable (a=b)
 sz:T->Nat
 st:T->Bool
 el:T->T
 fts:T->List T
 tb:T
 ti:T
 tu8:T
 ts:T
 bv:Bool->I tb
 iv:Int->I ti
 cv:Int->I tu8
 sv:ByteArray->I ts
 vw:(t:T)->I t->View T I
 inj:(t:T)->View T I->Option (I t)
 C:(t:T)->I t->List AV
 tn:T
 nv:Nat->I tn
 vn:I tn->Nat
structure Uni.Ok(U:Uni):Prop where
 cvw:∀ t x,U.C t x=cellsV U.C U.sz (U.vw t x)
 len:∀ t x,(U.C t x).length=U.sz t
 stv:∀ t x,U.st t=(U.vw t x).isRec
 inj_ok:∀ t v x,U.inj t v=some x->U.vw t x=v
 inj_vw:∀ t x,U.inj t (U.vw t x)=some x
 pure:∀ t x,pureL (U.C t x)=true
 vb:∀ b,U.vw U.tb (U.bv b)=.bool b
 vi:∀ n,U.vw U.ti (U.iv n)=.int .i64 n
 vc:∀ n,U.vw U.tu8 (U.cv n)=.int .u8 n
 vs:∀ s,U.vw U.ts (U.sv s)=.str s
 nv_vn:∀ x,U.nv (U.vn x)=x
 vn_nv:∀ n,U.vn (U.nv n)=n
 mps:∀ t x q kt vt sb l,U.vw t x=.mp q kt vt sb l->sb=U.st vt/\U.st kt=false
inductive N(U:Uni) where
 | v (t:U.T) (x:U.I t)
 | tl (e:U.T) (l:List (U.I e))
 | ns (e:U.T)
 | ag (t:U.T) (fs:List (N U))
 | tup (vs:List (N U))
 | row (r:Nat)
 | ptr (r j:Nat) (p:List Nat)
 | rptr (r:Nat) (e:U.T) (i j:Nat) (p:List Nat)
 | ip (n:N U) (j:Nat) (p:List Nat)
 | fn (f:Nat) (a b:List (N U))
 | nilp
 | nilf
 | nili
 | u
 | ub
 | rv (r:Nat) (e:U.T) (lo n:Nat)
instance {U:Uni}:Inhabited (N U):=⟨.u⟩
def V(U:Uni)(t:U.T)(x:U.I t):AV:=bif U.st t then .agg (U.C t x)else(U.C t x).headD .u
section
variable {U:Uni}
mutual
def N.abs:N U->AV
 | .v t x=>V U t x
 | .tl e l=>.sl true (U.sz e) (l.map (U.C e))
 | .ns _=>.nils
 | .ag _ fs=>.agg (absC fs)
 | .tup vs=>.tup (absL vs)
 | .row r=>.row r
 | .ptr r j _=>.ptr r j
 | .rptr r e i j _=>.rptr r (U.sz e) i j
 | .ip n j _=>.ip false ((cellsOf n.abs).drop j)
 | .fn f a b=>.fn (.func f) (absL a) (absL b)
 | .nilp=>.nilp
 | .nilf=>.nilf
 | .nili=>.nili
 | .u=>.u
 | .ub=>.ub
 | .rv r e lo n=>.rv r (U.sz e) lo n
def absL:List (N U)->List AV
 | []=>[]
 | n::ns=>n.abs::absL ns
def absC:List (N U)->List AV
 | []=>[]
 | n::ns=>cellsOf n.abs++absC ns
end
theorem absL_eq(l:List (N U)):absL l=l.map N.abs:=by
 induction l with
 | nil=>rfl
 | cons n l ih=>simp[absL,ih]
def N.cells(n:N U):List AV:=cellsOf n.abs
mutual
def N.sz:N U->Nat
 | .v t _=>U.sz t
 | .ag _ fs=>szs fs
 | .tl _ _=>1
 | .ns _=>1
 | .tup _=>1
 | .row _=>1
 | .ptr _ _ _=>1
 | .rptr _ _ _ _ _=>1
 | .ip _ _ _=>1
 | .fn _ _ _=>1
 | .nilp=>1
 | .nilf=>1
 | .nili=>1
 | .u=>1
 | .ub=>1
 | .rv _ _ _ _=>1
def szs:List (N U)->Nat
 | []=>0
 | n::ns=>n.sz+szs ns
end
def N.st:N U->Bool
 | .v t _=>U.st t
 | .ag _ _=>true
 | .tl _ _=>false
 | .ns _=>false
 | .tup _=>false
 | .row _=>false
 | .ptr _ _ _=>false
 | .rptr _ _ _ _ _=>false
 | .ip _ _ _=>false
 | .fn _ _ _=>false
 | .nilp=>false
 | .nilf=>false
 | .nili=>false
 | .u=>false
 | .ub=>false
 | .rv _ _ _ _=>false
def vfs(fs:List (Sigma U.I)):List (N U):=fs.map fun f=>.v f.1 f.2
def N.fields:N U->Option (List (N U))
 | .ag _ fs=>some fs
 | .v t x=>match U.vw t x with
  | .fds fs=>some (vfs fs)
  | _=>none
 | _=>none
def getN:N U->List Nat->Option (N U)
 | n,[]=>some n
 | n,i::p=>match n.fields with
  | some fs=>match fs[i]? with
   | some f=>getN f p
   | none=>none
  | none=>none
def offN:N U->List Nat->Nat
 | _,[]=>0
 | n,i::p=>match n.fields with
  | some fs=>match fs[i]? with
   | some f=>szs (fs.take i)+offN f p
   | none=>0
  | none=>0
def tagN(n:N U)(t0:U.T):U.T:=match n with
 | .v t _=>t
 | .ag t _=>t
 | _=>t0
def setN(m:N U):N U->List Nat->Option (N U)
 | n,[]=>bif Nat.beq n.sz m.sz then some m else none
 | n,i::p=>match n.fields with
  | some fs=>match fs[i]? with
   | some f=>match setN m f p with
    | some f'=>some (.ag (tagN n U.tb) (fs.set i f'))
    | none=>none
   | none=>none
  | none=>none
variable (hU:U.Ok)
include hU
theorem isRec_not{v:View U.T U.I}(h:v.isRec=false):∃ c,cellsV U.C U.sz v=[c]/\cellsOf c=[c]/\boxB c=true:=by
 cases v with
 | int k n=>exact⟨_,rfl,rfl,rfl⟩
 | bool b=>exact⟨_,rfl,rfl,rfl⟩
 | str s=>exact⟨_,rfl,rfl,rfl⟩
 | lst e l=>exact⟨_,rfl,rfl,rfl⟩
 | fds fs=>simp[View.isRec]at h
 | opt e o=>cases o<;>exact⟨_,rfl,rfl,rfl⟩
 | mp q kt vt sb l=>exact⟨_,rfl,rfl,rfl⟩
theorem cells_V(t:U.T)(x:U.I t):cellsOf (V U t x)=U.C t x:=by
 unfold V
 cases h:U.st t
 ·rw[hU.stv t x]at h
  obtain⟨c,h1,h2,_⟩:=isRec_not hU h
  rw[hU.cvw t x,h1]
  simpa using h2
 ·rfl
theorem V_box(t:U.T)(x:U.I t):boxB (V U t x)=true:=by
 unfold V
 cases h:U.st t
 ·rw[hU.stv t x]at h
  obtain⟨c,h1,h2,h3⟩:=isRec_not hU h
  rw[hU.cvw t x,h1]
  simpa using h3
 ·rfl
theorem V_pure(t:U.T)(x:U.I t):pureB (V U t x)=true:=by
 have h:=hU.pure t x
 unfold V
 cases hs:U.st t
 ·rw[hU.stv t x]at hs
  obtain⟨c,h1,h2,h3⟩:=isRec_not hU hs
  rw[hU.cvw t x,h1]at h ⊢
  simpa [pureL] using h
 ·simpa [pureB] using h
theorem C_lst{t:U.T}{x:U.I t}{e:U.T}{l:List (U.I e)}(h:U.vw t x=.lst e l):V U t x=.sl false (U.sz e) (l.map (U.C e)):=by
 unfold V;rw[hU.stv t x,hU.cvw t x,h];rfl
theorem V_int{t:U.T}{x:U.I t}{k:IntKind}{n:Int}(h:U.vw t x=.int k n):V U t x=.i k n:=by
 unfold V;rw[hU.stv t x,hU.cvw t x,h];rfl
theorem V_bool{t:U.T}{x:U.I t}{b:Bool}(h:U.vw t x=.bool b):V U t x=.b b:=by
 unfold V;rw[hU.stv t x,hU.cvw t x,h];rfl
theorem V_str{t:U.T}{x:U.I t}{s:ByteArray}(h:U.vw t x=.str s):V U t x=.s s:=by
 unfold V;rw[hU.stv t x,hU.cvw t x,h];rfl
theorem V_nilp{t:U.T}{x:U.I t}{e:U.T}(h:U.vw t x=.opt e none):V U t x=.nilp:=by
 unfold V;rw[hU.stv t x,hU.cvw t x,h];rfl
theorem V_ip{t:U.T}{x:U.I t}{e:U.T}{y:U.I e}(h:U.vw t x=.opt e (some y)):V U t x=.ip true (U.C e y):=by
 unfold V;rw[hU.stv t x,hU.cvw t x,h];rfl
theorem absC_vfs(fs:List (Sigma U.I)):absC (vfs fs)=cellsF U.C fs:=by
 induction fs with
 | nil=>rfl
 | cons f fs ih=>simp only[cellsF,vfs,List.map_cons,absC,N.abs,cells_V hU]at ih ⊢;rw[ih]
theorem C_fds{t:U.T}{x:U.I t}{fs:List (Sigma U.I)}(h:U.vw t x=.fds fs):U.C t x=absC (vfs fs)/\U.st t=true:=by
 rw[hU.cvw t x,hU.stv t x,h,absC_vfs hU];exact⟨rfl,rfl⟩
theorem cells_v(t:U.T)(x:U.I t):(N.v t x:N U).cells=U.C t x:=cells_V hU t x
mutual
theorem sz_cells:∀ n:N U,(cellsOf n.abs).length=n.sz
 | .v t x=>by simp only[N.abs,cells_V hU,N.sz,hU.len]
 | .tl _ _=>rfl
 | .ns _=>rfl
 | .ag _ fs=>by simp only[N.abs,cellsOf,N.sz];exact szs_cells fs
 | .tup vs=>rfl
 | .row _=>rfl
 | .ptr _ _ _=>rfl
 | .rptr _ _ _ _ _=>rfl
 | .ip _ _ _=>rfl
 | .fn _ _ _=>rfl
 | .nilp=>rfl
 | .nilf=>rfl
 | .nili=>rfl
 | .u=>rfl
 | .ub=>rfl
 | .rv _ _ _ _=>rfl
theorem szs_cells:∀ l:List (N U),(absC l).length=szs l
 | []=>rfl
 | n::l=>by simp only[absC,List.length_append,szs,sz_cells n,szs_cells l]
end
theorem st_agg(n:N U)(h:n.st=true):n.abs=.agg n.cells:=by
 cases n<;>simp only[N.st,Bool.false_eq_true]at h
 case v t x=>simp only[N.abs,N.cells,cells_V hU];unfold V;rw[h];rfl
 case ag t fs=>rfl
theorem st_cell(n:N U)(h:n.st=false):n.cells=[n.abs]:=by
 cases n<;>simp only[N.st,Bool.true_eq_false]at h<;>try rfl
 case v t x =>
  rw[hU.stv t x]at h
  obtain⟨c,h1,h2,_⟩:=isRec_not hU h
  rw[cells_v hU,hU.cvw,h1]
  simp only[N.abs,V,hU.stv t x,h,cond_false,hU.cvw t x,h1,List.headD]
theorem fields_ok{n:N U}{fs:List (N U)}(h:n.fields=some fs):n.cells=absC fs/\n.sz=szs fs/\n.st=true:=by
 have key:n.cells=absC fs/\n.st=true:=by
  cases n<;>simp only[N.fields,reduceCtorEq,Option.some.injEq]at h
  case v t x =>
   split at h
   ·rename_i l hl
    obtain rfl:=Option.some.inj h
    rw[cells_v hU]
    exact C_fds hU hl
   ·cases h
  case ag t l=>subst h;exact⟨rfl,rfl⟩
 refine⟨key.1,?_,key.2⟩
 rw[<-sz_cells hU n,<-szs_cells hU fs,<-key.1];rfl
theorem absC_split{fs:List (N U)}{i:Nat}{f:N U}(h:fs[i]? = some f):absC fs=absC (fs.take i)++(f.cells++absC (fs.drop (i+1))):=by
 induction fs generalizing i with
 | nil=>simp at h
 | cons g fs ih =>
  cases i with
  | zero=>simp at h;subst h;simp[absC,N.cells]
  | succ i=>simp only[List.take_succ_cons,absC,List.drop_succ_cons,List.append_assoc];rw[ih (by simpa using h)]
theorem get_cells:∀ {p:List Nat} {n m:N U},getN n p=some m->∃ a b,n.cells=a++(m.cells++b)/\a.length=offN n p
 | [],n,m,h=>by
  simp only[getN,Option.some.injEq]at h
  subst h
  exact⟨[],[],by simp,rfl⟩
 | i::p,n,m,h=>by
  simp only[getN]at h
  split at h
  ·rename_i fs hf
   split at h
   ·rename_i f hi
    obtain⟨a,b,h1,h2⟩:=get_cells h
    refine⟨absC (fs.take i)++a,b++absC (fs.drop (i+1)),?_,?_⟩
    ·rw[(fields_ok hU hf).1,absC_split hU hi,h1];simp
    ·simp only[offN,hf,hi,List.length_append,szs_cells hU,h2]
   ·cases h
  ·cases h
theorem set_cells{m:N U}:∀ {p:List Nat} {n n':N U},setN m n p=some n'->∃ a o b,n.cells=a++(o++b)/\a.length=offN n p/\o.length=m.sz/\n'.cells=a++(m.cells++b)/\n'.sz=n.sz
 | [],n,n',h=>by
  simp only[setN]at h
  cases hs:Nat.beq n.sz m.sz<;>rw[hs]at h
  ·cases h
  ·obtain rfl:=Option.some.inj h
   have:=Nat.eq_of_beq_eq_true hs
   exact⟨[],n.cells,[],by simp,rfl,by rw[<-this];exact sz_cells hU n,by simp,this.symm⟩
 | i::p,n,n',h=>by
  simp only[setN]at h
  split at h
  ·rename_i fs hf
   split at h
   ·rename_i f hi
    split at h
    ·rename_i f' hs
     obtain rfl:=Option.some.inj h
     obtain⟨a,o,b,h1,h2,h3,h4,h5⟩:=set_cells hs
     obtain⟨e1,e2,e3⟩:=fields_ok hU hf
     have hlt:=(List.getElem?_eq_some_iff.1 hi).1
     have hi':(fs.set i f')[i]? = some f':=by simp[List.getElem?_set,hlt]
     have et:(fs.set i f').take i=fs.take i:=by rw[List.take_set_of_le (Nat.le_refl i)]
     have ed:(fs.set i f').drop (i+1)=fs.drop (i+1):=by rw[List.drop_set_of_lt (Nat.lt_succ_self i)]
     have hc:(N.ag (tagN n U.tb) (fs.set i f')).cells=absC (fs.set i f'):=rfl
     refine⟨absC (fs.take i)++a,o,b++absC (fs.drop (i+1)),?_,?_,h3,?_,?_⟩
     ·rw[e1,absC_split hU hi,h1];simp
     ·simp only[offN,hf,hi,List.length_append,szs_cells hU,h2]
     ·rw[hc,absC_split hU hi',et,ed,h4];simp
     ·have k1:=absC_split hU hi'
      have k2:=absC_split hU hi
      rw[et,ed]at k1
      have l1:=congrArg List.length k1
      have l2:=congrArg List.length k2
      simp only[List.length_append,szs_cells hU]at l1 l2
      have l3:f'.cells.length=f'.sz:=sz_cells hU f'
      have l4:f.cells.length=f.sz:=sz_cells hU f
      simp only[N.sz,e2]
      omega
    ·cases h
   ·cases h
  ·cases h
omit hU
inductive HB(U:Uni) where
 | gone
 | pin (r:Nat)
 | box (t:TypeId) (n:N U)
 | ro (t:TypeId) (n:N U)
 | row (t:TypeId) (e:U.T) (l:List (U.I e))
 | map (q:Option IntKind) (kt vt:U.T) (l:List (U.I kt×U.I vt))
def boxOf:Option (HB U)->Option (N U)
 | some (.box _ n)=>some n
 | some (.ro _ n)=>some n
 | _=>none
def entM(kt vt:U.T)(l:List (U.I kt×U.I vt)):List (List AV):=l.map fun p=>[V U kt p.1,V U vt p.2]
def absB(b:Value):HB U->AB
 | .gone=>.gone
 | .pin r=>.pin r b
 | .box t n=>.box t n.cells
 | .ro t n=>.box t n.cells
 | .row t e l=>.row t (U.sz e) (l.map (U.C e))
 | .map q kt vt l=>.map q (entM kt vt l)
def absH(β:Nat->Value):Nat->List (HB U)->List AB
 | _,[]=>[]
 | k,h::l=>absB (β k) h::absH β (k+1) l
theorem absH_len(β:Nat->Value):∀(H:List (HB U)) (k:Nat),(absH β k H).length=H.length
 | [],k=>rfl
 | h::H,k=>by simp[absH,absH_len β H]
theorem absH_get(β:Nat->Value):∀(H:List (HB U)) (k r:Nat),(absH β k H)[r]? = (H[r]?).map (absB (β (k+r)))
 | [],k,r=>by simp[absH]
 | h::H,k,0=>by simp[absH]
 | h::H,k,r+1=>by simp only[absH,List.getElem?_cons_succ,absH_get β H];rw[Nat.add_right_comm,Nat.add_assoc]
theorem absH_app(β:Nat->Value):∀(H K:List (HB U)) (k:Nat),absH β k (H++K)=absH β k H++absH β (k+H.length) K
 | [],K,k=>by simp[absH]
 | h::H,K,k=>by simp only[List.cons_append,absH,absH_app β H K,List.length_cons];rw[show k+1+H.length=k+(H.length+1) by omega]
theorem absH_set(β:Nat->Value):∀(H:List (HB U)) (k r:Nat) (x:HB U),absH β k (H.set r x)=(absH β k H).set r (absB (β (k+r)) x)
 | [],k,r,x=>by simp[absH]
 | h::H,k,0,x=>by simp[absH]
 | h::H,k,r+1,x=>by simp only[List.set_cons_succ,absH,absH_set β H];rw[Nat.add_right_comm,Nat.add_assoc]
theorem boxOf_ok(β:Nat->Value){H:List (HB U)}{r:Nat}{n:N U}(h:boxOf H[r]? = some n):∃ tid,(absH β 0 H)[r]? = some (.box tid n.cells):=by
 rw[absH_get]
 cases hr:H[r]? with
 | none=>rw[hr]at h;cases h
 | some x=>rw[hr]at h;cases x<;>cases h<;>exact⟨_,rfl⟩
def cast(t:U.T)(t':U.T)(x:U.I t'):Option (U.I t):=match U.dec t' t with
 | .isTrue h=>some (h ▸ x)
 | .isFalse _=>none
theorem cast_ok{t t':U.T}{x:U.I t'}{y:U.I t}(h:cast t t' x=some y):(⟨t',x⟩:Sigma U.I)=⟨t,y⟩:=by
 unfold cast at h
 split at h
 ·rename_i e _
  subst e
  simpa using h
 ·cases h
mutual
def exT(t:U.T):N U->Option (U.I t)
 | .v t' x=>cast t t' x
 | .ag _ fs=>match exF (U.fts t) fs with
  | some l=>U.inj t (.fds l)
  | none=>none
 | .tl _ _=>none
 | .ns _=>none
 | .tup _=>none
 | .row _=>none
 | .ptr _ _ _=>none
 | .rptr _ _ _ _ _=>none
 | .ip _ _ _=>none
 | .fn _ _ _=>none
 | .nilp=>none
 | .nilf=>none
 | .nili=>none
 | .u=>none
 | .ub=>none
 | .rv _ _ _ _=>none
def exF:List U.T->List (N U)->Option (List (Sigma U.I))
 | _,[]=>some []
 | ts,n::ns=>match exT (ts.headD U.tb) n with
  | some x=>match exF ts.tail ns with
   | some l=>some (⟨ts.headD U.tb,x⟩::l)
   | none=>none
  | none=>none
end
include hU
mutual
theorem exT_ok(t:U.T):∀(n:N U) {x:U.I t},exT t n=some x->n.abs=V U t x
 | .v t' y,x,h=>by
  simp only[exT]at h
  have:=cast_ok h
  cases this
  rfl
 | .ag t' fs,x,h=>by
  simp only[exT]at h
  split at h
  ·rename_i l hl
   have h1:=hU.inj_ok t _ _ h
   have h2:=C_fds hU h1
   unfold V
   rw[h2.2,h2.1]
   simp only[N.abs,cond_true]
   rw[exF_ok (U.fts t) fs hl]
  ·cases h
 | .tl _ _,x,h=>by simp[exT]at h
 | .ns _,x,h=>by simp[exT]at h
 | .tup _,x,h=>by simp[exT]at h
 | .row _,x,h=>by simp[exT]at h
 | .ptr _ _ _,x,h=>by simp[exT]at h
 | .rptr _ _ _ _ _,x,h=>by simp[exT]at h
 | .ip _ _ _,x,h=>by simp[exT]at h
 | .fn _ _ _,x,h=>by simp[exT]at h
 | .nilp,x,h=>by simp[exT]at h
 | .nilf,x,h=>by simp[exT]at h
 | .nili,x,h=>by simp[exT]at h
 | .u,x,h=>by simp[exT]at h
 | .ub,x,h=>by simp[exT]at h
 | .rv _ _ _ _,x,h=>by simp[exT]at h
theorem exF_ok:∀(ts:List U.T) (fs:List (N U)) {l:List (Sigma U.I)},exF ts fs=some l->absC fs=absC (vfs l)
 | ts,[],l,h=>by
  simp only[exF,Option.some.injEq]at h
  subst h;rfl
 | ts,n::ns,l,h=>by
  simp only[exF]at h
  split at h
  ·rename_i x hx
   split at h
   ·rename_i l' hl
    obtain rfl:=Option.some.inj h
    simp only[absC,vfs,List.map_cons,N.abs]
    rw[exT_ok _ n hx,exF_ok ts.tail ns hl]
    rfl
   ·cases h
  ·cases h
end
omit hU
mutual
def asT(H:List (HB U))(t:U.T):Nat->N U->Option (U.I t)
 | 0,_=>none
 | f+1,n=>match n with
  | .v t' x=>cast t t' x
  | .tl e l=>U.inj t (.lst e l)
  | .ns e=>U.inj t (.lst e [])
  | .ag _ fs=>match asF H (U.fts t) f fs with
   | some l=>U.inj t (.fds l)
   | none=>none
  | .ip _ _ _=>none
  | .nilp=>U.inj t (.opt (U.el t) none)
  | .row r=>match H[r]? with
   | some (.row _ e l)=>U.inj t (.lst e l)
   | some (.map q kt vt l)=>U.inj t (.mp q kt vt (U.st vt) l)
   | _=>none
  | .ptr r j p=>match j,p,boxOf H[r]? with
   | 0,[],some n=>match asT H (U.el t) f n with
    | some x=>U.inj t (.opt (U.el t) (some x))
    | none=>none
   | _,_,_=>none
  | _=>none
def asF(H:List (HB U))(ts:List U.T):Nat->List (N U)->Option (List (Sigma U.I))
 | 0,_=>none
 | f+1,l=>match l with
  | []=>some []
  | n::ns=>match asT H (ts.headD U.tb) f n with
   | some x=>match asF H ts.tail f ns with
    | some l=>some (⟨ts.headD U.tb,x⟩::l)
    | none=>none
   | none=>none
end
theorem FZL_one{H:List AB}{x y:AV}(h:FZL H [x] [y]):FZ H x y:=by
 cases h with
 | cons _ _ _ _ h _=>exact h
mutual
theorem FZ_nil:∀ {x y:AV},FZ [] x y->LE x y/\pureB x=true
 | _,_,.le x y h hp=>⟨h,hp⟩
 | _,_,.agg cs ds h=>⟨.agg cs ds (FZL_nil h).1,by simpa [pureB] using (FZL_nil h).2⟩
 | _,_,.tup cs ds h=>⟨.tup cs ds (FZL_nil h).1,by simpa [pureB] using (FZL_nil h).2⟩
 | _,_,.row r e sz els els' hr hl hz h hp=>by simp at hr
 | _,_,.ptr p r j t cs ds hr h hp hj=>by simp at hr
theorem FZL_nil:∀ {xs ys:List AV},FZL [] xs ys->LEL xs ys/\pureL xs=true
 | _,_,.nil=>⟨.nil,rfl⟩
 | _,_,.cons x y xs ys h hs=>⟨.cons x y xs ys (FZ_nil h).1 (FZL_nil hs).1,by simp[pureL,(FZ_nil h).2,(FZL_nil hs).2]⟩
end
theorem FZL.le{H:List AB}:∀ {xs ys:List AV},LEL xs ys->pureL xs=true->FZL H xs ys
 | _,_,.nil,_=>.nil
 | _,_,.cons x y xs ys h hs,hp=>by
  simp only[pureL,Bool.and_eq_true]at hp
  exact .cons x y xs ys (.le x y h hp.1) (FZL.le hs hp.2)
include hU
theorem pureE_C(e:U.T)(l:List (U.I e)):pureE (l.map (U.C e))=true:=by
 induction l with
 | nil=>rfl
 | cons x l ih=>simp[pureE,hU.pure,ih]
theorem fz_V{H:List AB}{n:N U}{t:U.T}{x:U.I t}(h:FZL H n.cells (U.C t x))(hs:n.st=U.st t):FZ H n.abs (V U t x):=by
 cases hn:n.st
 ·have h1:(N.v t x:N U).st=false:=by simp only[N.st];rw[<-hs,hn]
  have h2:=st_cell hU n hn
  have h3:=st_cell hU (.v t x) h1
  rw[cells_v hU]at h3
  rw[h2,h3]at h
  exact FZL_one h
 ·have h1:(N.v t x:N U).st=true:=by simp only[N.st];rw[<-hs,hn]
  have h2:=st_agg hU n hn
  have h3:=st_agg hU (.v t x) h1
  rw[cells_v hU]at h3
  rw[h2,show V U t x=(N.v t x:N U).abs from rfl,h3]
  exact .agg _ _ h
theorem notRec{t:U.T}{x:U.I t}{v:View U.T U.I}(h:U.inj t v=some x)(hv:v.isRec=false):U.st t=false:=by
 rw[hU.stv t x,hU.inj_ok _ _ _ h,hv]
theorem isRec'{t:U.T}{x:U.I t}{l:List (Sigma U.I)}(h:U.inj t (.fds l)=some x):U.st t=true:=by
 rw[hU.stv t x,hU.inj_ok _ _ _ h];rfl
mutual
theorem asT_ok(β:Nat->Value):∀(f:Nat) (H:List (HB U)) (t:U.T) (n:N U) {x:U.I t},asT H t f n=some x->FZL (absH β 0 H) n.cells (U.C t x)/\n.st=U.st t
 | 0,H,t,n,x,h=>by simp[asT]at h
 | f+1,H,t,n,x,h=>by
  cases n with
  | v t' y =>
   simp only[asT]at h
   have:=cast_ok h
   cases this
   rw[cells_v hU]
   exact⟨FZL.pure' (hU.pure _ _),rfl⟩
  | tl e l =>
   simp only[asT]at h
   have h1:=hU.inj_ok _ _ _ h
   refine⟨?_,(notRec hU h rfl).symm⟩
   rw[hU.cvw,h1]
   exact .cons _ _ _ _ (.le _ _ (.tight ..) (by simpa [N.abs,pureB] using pureE_C hU e l)) .nil
  | ns e =>
   simp only[asT]at h
   have h1:=hU.inj_ok _ _ _ h
   refine⟨?_,(notRec hU h rfl).symm⟩
   rw[hU.cvw,h1]
   exact .cons _ _ _ _ (.le _ _ (.nils _) rfl) .nil
  | ag t' fs =>
   simp only[asT]at h
   split at h
   ·rename_i l hl
    have h1:=hU.inj_ok _ _ _ h
    refine⟨?_,(isRec' hU h).symm⟩
    rw[hU.cvw,h1]
    exact asF_ok β f H (U.fts t) fs hl
   ·cases h
  | tup vs=>simp[asT]at h
  | row r =>
   simp only[asT]at h
   split at h
   ·rename_i tid e l hr
    have h1:=hU.inj_ok _ _ _ h
    refine⟨?_,(notRec hU h rfl).symm⟩
    rw[hU.cvw,h1]
    refine .cons _ _ _ _ (FZ.rowp (e:=tid) ?_ ?_ (pureE_C hU e l)) .nil
    ·rw[absH_get,hr];rfl
    ·intro el he
     obtain⟨y,_,rfl⟩:=List.mem_map.1 he
     exact hU.len e y
   ·rename_i q kt vt l hr
    have h1:=hU.inj_ok _ _ _ h
    have hk:=(hU.mps _ _ _ _ _ _ _ h1).2
    refine⟨?_,(notRec hU h rfl).symm⟩
    rw[hU.cvw,h1]
    have e:(l.map fun p=>[(U.C kt p.1).headD .u,bif U.st vt then .agg (U.C vt p.2)else(U.C vt p.2).headD .u])=entM kt vt l:=by unfold entM V;rw[hk];rfl
    simp only[cellsV,e]
    exact .cons _ _ _ _ (.map r q _ (by rw[absH_get,hr];rfl)) .nil
   ·cases h
  | ptr r j p =>
   simp only[asT]at h
   split at h
   ·rename_i n hr
    split at h
    ·rename_i y hy
     have h1:=hU.inj_ok _ _ _ h
     obtain⟨tid,hr⟩:=boxOf_ok β hr
     refine⟨?_,(notRec hU h rfl).symm⟩
     rw[hU.cvw,h1]
     refine .cons _ _ _ _ (.ptr true r 0 tid n.cells _ hr ?_ (hU.pure _ _) fun _=>rfl) .nil
     ·exact(asT_ok β f H _ n hy).1
    ·cases h
   ·cases h
  | rptr=>simp[asT]at h
  | ip n j p=>simp[asT]at h
  | fn=>simp[asT]at h
  | nilp =>
   simp only[asT]at h
   have h1:=hU.inj_ok _ _ _ h
   refine⟨?_,(notRec hU h rfl).symm⟩
   rw[hU.cvw,h1]
   exact .cons _ _ _ _ (.le _ _ (.refl _) rfl) .nil
  | nilf=>simp[asT]at h
  | nili=>simp[asT]at h
  | u=>simp[asT]at h
  | ub=>simp[asT]at h
  | rv=>simp[asT]at h
theorem asF_ok(β:Nat->Value):∀(f:Nat) (H:List (HB U)) (ts:List U.T) (ns:List (N U)) {l:List (Sigma U.I)},asF H ts f ns=some l->FZL (absH β 0 H) (absC ns) (cellsF U.C l)
 | 0,H,ts,ns,l,h=>by simp[asF]at h
 | f+1,H,ts,[],l,h=>by
  simp only[asF,Option.some.injEq]at h
  subst h
  exact .nil
 | f+1,H,ts,n::ns,l,h=>by
  simp only[asF]at h
  split at h
  ·rename_i x hx
   split at h
   ·rename_i l' hl
    obtain rfl:=Option.some.inj h
    exact FZL_append (asT_ok β f H _ n hx).1 (asF_ok β f H _ ns hl)
   ·cases h
  ·cases h
end
theorem asT_fz(β:Nat->Value){f:Nat}{H:List (HB U)}{t:U.T}{n:N U}{x:U.I t}(h:asT H t f n=some x):FZ (absH β 0 H) n.abs (V U t x):=
 fz_V hU (asT_ok hU β f H t n h).1 (asT_ok hU β f H t n h).2
theorem asT_le{f:Nat}{t:U.T}{n:N U}{x:U.I t}(h:asT [] t f n=some x):LE n.abs (V U t x)/\pureB n.abs=true:=
 FZ_nil (asT_fz hU (fun _=>.nilFunc) h)
end
end Go.Ab.X

set_option linter.all false
namespace Go.Ab.X
open Go.RowKit Go.Ab
section
variable {U:Uni} {R:Type}
inductive Fct where
 | lt (i j:Nat)
 | ltc (i:Nat)
 | gt (i:Nat)
 | bnd
 | pos
 | eq (i:Nat)
def Fct.men(k:Nat):Fct->Bool
 | .lt i j=>Nat.beq i k || Nat.beq j k
 | .ltc i=>Nat.beq i k
 | .gt i=>Nat.beq i k
 | .bnd=>false
 | .pos=>false
 | .eq i=>Nat.beq i k
structure St(U:Uni) where
 T:List (Nat×N U)
 H:List (HB U)
 E:List (Nat×Fct)
def lkN:List (Nat×N U)->Nat->N U
 | [],_=>.u
 | (k,v)::l,n=>bif Nat.beq n k then v else lkN l n
def clr(k:Nat):List (Nat×Fct)->List (Nat×Fct)
 | []=>[]
 | (d,f)::l=>bif Nat.beq d k || f.men k then clr k l else(d,f)::clr k l
def St.put(s:St U)(d:Option Nat)(v:N U):St U:=match d with
 | some k=>⟨(k,v)::s.T,s.H,clr k s.E⟩
 | none=>s
def absT:List (Nat×N U)->List (Nat×AV)
 | []=>[]
 | (k,v)::l=>(k,v.abs)::absT l
def absS(β:Nat->Value)(s:St U):AS:=⟨absT s.T,absH β 0 s.H⟩
theorem lk_abs(T:List (Nat×N U))(n:Nat):lk (absT T) n=(lkN T n).abs:=by
 induction T with
 | nil=>rfl
 | cons p T ih =>
  obtain⟨k,v⟩:=p
  simp only[absT,lk,lkN,ih]
  have:(n == k)=Nat.beq n k:=by rw[Bool.eq_iff_iff];simp[Nat.beq_eq]
  rw[this];cases Nat.beq n k<;>rfl
theorem put_abs(β:Nat->Value)(s:St U)(d:Option Nat)(v:N U):absS β (s.put d v)=Ab.put (absS β s) d v.abs:=by
 cases d<;>rfl
inductive Od(U:Uni) where
 | t (n:Nat)
 | c (x:N U)
def Od.er:Od U->Opd
 | .t n=>.t n
 | .c x=>.c x.abs
def St.ev(s:St U):Od U->N U
 | .t n=>lkN s.T n
 | .c x=>x
theorem ev_abs(β:Nat->Value)(s:St U)(x:Od U):(absS β s).ev x.er=(s.ev x).abs:=by
 cases x with
 | t n=>exact lk_abs _ _
 | c x=>rfl
def intN:N U->Option (U.T×IntKind×Int)
 | .v t x=>match U.vw t x with
  | .int k n=>some (t,k,n)
  | _=>none
 | _=>none
def boolN:N U->Option Bool
 | .v t x=>match U.vw t x with
  | .bool b=>some b
  | _=>none
 | _=>none
def strN:N U->Option (U.T×ByteArray)
 | .v t x=>match U.vw t x with
  | .str s=>some (t,s)
  | _=>none
 | _=>none
def lstN:N U->Option (Bool×(e:U.T)×List (U.I e))
 | .v t x=>match U.vw t x with
  | .lst e l=>some (false,⟨e,l⟩)
  | _=>none
 | .tl e l=>some (true,⟨e,l⟩)
 | _=>none
def boxN:N U->Bool
 | .u=>false
 | .tup _=>false
 | _=>true
mutual
def pureN:N U->Bool
 | .v _ _=>true
 | .tl _ _=>true
 | .ns _=>true
 | .ag _ fs=>pureNs fs
 | .tup vs=>pureNs vs
 | .row _=>false
 | .ptr _ _ _=>false
 | .rptr _ _ _ _ _=>false
 | .ip n _ _=>pureN n
 | .fn _ a b=>pureNs a && pureNs b
 | .nilp=>true
 | .nilf=>true
 | .nili=>true
 | .u=>false
 | .ub=>false
 | .rv _ _ _ _=>false
def pureNs:List (N U)->Bool
 | []=>true
 | n::l=>pureN n && pureNs l
end
section
variable (hU:U.Ok)
include hU
theorem intN_ok{n:N U}{t:U.T}{k:IntKind}{a:Int}(h:intN n=some (t,k,a)):n.abs=.i k a:=by
 unfold intN at h
 split at h
 ·split at h
  ·rename_i hv
   cases h
   exact V_int hU hv
  ·cases h
 ·cases h
theorem boolN_ok{n:N U}{b:Bool}(h:boolN n=some b):n.abs=.b b:=by
 unfold boolN at h
 split at h
 ·split at h
  ·rename_i hv
   cases h
   exact V_bool hU hv
  ·cases h
 ·cases h
theorem strN_ok{n:N U}{t:U.T}{b:ByteArray}(h:strN n=some (t,b)):n.abs=.s b:=by
 unfold strN at h
 split at h
 ·split at h
  ·rename_i hv
   cases h
   exact V_str hU hv
  ·cases h
 ·cases h
theorem lstN_ok{n:N U}{f:Bool}{e:U.T}{l:List (U.I e)}(h:lstN n=some (f,⟨e,l⟩)):n.abs=.sl f (U.sz e) (l.map (U.C e)):=by
 unfold lstN at h
 split at h
 ·split at h
  ·rename_i hv
   cases h
   exact C_lst hU hv
  ·cases h
 ·cases h;rfl
 ·cases h
theorem boxN_ok{n:N U}(h:boxN n=true):boxB n.abs=true:=by
 cases n<;>simp only[boxN,Bool.false_eq_true]at h<;>try rfl
 exact V_box hU _ _
theorem abs_tb(b:Bool):(N.v U.tb (U.bv b):N U).abs=.b b:=V_bool hU (hU.vb b)
theorem abs_ti(n:Int):(N.v U.ti (U.iv n):N U).abs=.i .i64 n:=V_int hU (hU.vi n)
theorem abs_tu8(n:Int):(N.v U.tu8 (U.cv n):N U).abs=.i .u8 n:=V_int hU (hU.vc n)
theorem pureL_cells{n:N U}(h:pureB n.abs=true):pureL n.cells=true:=by
 unfold N.cells
 cases hn:n.abs<;>rw[hn]at h<;>simp_all [cellsOf,pureB,pureL]
mutual
theorem pureN_ok:∀ {n:N U},pureN n=true->pureB n.abs=true
 | .v t x,_=>V_pure hU t x
 | .tl e l,_=>by simpa [N.abs,pureB] using pureE_C hU e l
 | .ns _,_=>rfl
 | .ag _ fs,h=>by simp only[N.abs,pureB];exact(pureNs_ok (by simpa [pureN] using h)).2
 | .tup vs,h=>by simp only[N.abs,pureB];exact(pureNs_ok (by simpa [pureN] using h)).1
 | .row _,h=>by simp[pureN]at h
 | .ptr _ _ _,h=>by simp[pureN]at h
 | .rptr _ _ _ _ _,h=>by simp[pureN]at h
 | .ip n _ _,h=>by
  simp only[N.abs,pureB]
  exact pureL_drop (pureL_cells hU (pureN_ok (by simpa [pureN] using h))) _
 | .fn _ a b,h=>by
  simp only[pureN,Bool.and_eq_true]at h
  simp[N.abs,pureB,(pureNs_ok h.1).1,(pureNs_ok h.2).1]
 | .nilp,_=>rfl
 | .nilf,_=>rfl
 | .nili,_=>rfl
 | .u,h=>by simp[pureN]at h
 | .ub,h=>by simp[pureN]at h
 | .rv _ _ _ _,h=>by simp[pureN]at h
theorem pureNs_ok:∀ {l:List (N U)},pureNs l=true->pureL (absL l)=true/\pureL (absC l)=true
 | [],_=>⟨rfl,rfl⟩
 | n::l,h=>by
  simp only[pureNs,Bool.and_eq_true]at h
  have h1:=pureN_ok h.1
  have h2:=pureNs_ok h.2
  have h3:=pureL_cells hU h1
  refine⟨by simp[absL,pureL,h1,h2.1],?_⟩
  simp only[absC]
  have:∀(a b:List AV),pureL a=true->pureL b=true->pureL (a++b)=true:=by
   intro a b
   induction a with
   | nil=>intro _ h;exact h
   | cons x a ih=>intro h1 h2;simp only[pureL,Bool.and_eq_true,List.cons_append]at h1 ⊢;exact⟨h1.1,ih h1.2 h2⟩
  exact this _ _ h3 h2.2
end
end
inductive Q(U:Uni) where
 | mv (x:Od U)
 | bx (x:Od U)
 | bld (t:U.T) (z:List (N U)) (ps:List (Nat×Od U))
 | bsl (e:U.T) (xs:List (Od U))
 | ld (t:U.T) (a:Od U)
 | ldi (t:U.T) (a:Od U)
 | fa (t:U.T) (i:Nat) (a:Od U)
 | fld (t:U.T) (i:Nat) (x:Od U)
 | ia (e:U.T) (x ix:Od U)
 | ix (x ix:Od U)
 | nc (x:Od U)
 | bi (op:BinOp) (x y:Od U)
 | inc (i:Nat) (k:IntKind)
 | dcr (i:Nat) (k:IntKind)
 | bib (op:BinOp) (x y:Od U)
 | un (x:Od U)
 | cvi (t:U.T) (k:IntKind) (x:Od U)
 | cvr (t:U.T) (x:Od U)
 | cvb (t:U.T) (x:Od U)
 | neg (t:U.T) (x:Od U)
 | eqf (ng:Bool) (ks:List Nat) (x y:Od U)
 | slc (e:U.T) (x:Od U) (lo hi mx:Option (Od U))
 | slct (e:U.T) (x hi mx:Od U)
 | slcs (x:Od U) (lo hi:Option (Od U))
 | len (x:Od U)
 | lens (x:Od U)
 | mx (x y:Od U)
 | mn (x y:Od U)
 | ext (x:Od U) (n:Nat)
 | mkf (f:Nat) (a b:List (Od U))
 | pk (c x y:Od U)
 | apt (t:U.T) (tid:TypeId) (e:U.T) (s x:Od U)
 | eqn (ng:Bool) (x:Od U)
 | eqp (ng:Bool) (x y:Od U)
 | eqs (ng:Bool) (n:Nat) (x y:Od U)
 | shr (x:Od U)
 | ldd (t:U.T) (a:Od U) (bs:List Nat)
 | capn (x:Od U)
 | mlk (q:Option IntKind) (z:N U) (ok:Bool) (m k:Od U)
 | mln (m:Od U)
 | sln (x hi:Od U)
 | stuck
 | rsl (e:U.T) (x:Od U) (lo hi mx:Option (Od U))
def nthSz(z:List (N U))(i:Nat):Nat:=match z[i]? with
 | some n=>n.sz
 | none=>0
def offT(U:Uni)(ts:List U.T):Nat->Nat
 | 0=>0
 | i+1=>match ts with
  | []=>0
  | t::ts=>U.sz t+offT U ts i
def tyT(U:Uni)(t:U.T)(i:Nat):U.T:=match(U.fts t)[i]? with
 | some t=>t
 | none=>U.tb
def erO:Option (Od U)->Option Opd
 | none=>none
 | some x=>some x.er
def Q.er:Q U->K
 | .mv x=>.mv x.er
 | .bx x=>.bx x.er
 | .bld t z ps=>.bld (absC z) (ps.map fun p=>(szs (z.take p.1),nthSz z p.1,p.2.er))
 | .bsl e xs=>.bsl (U.sz e) (xs.map Od.er)
 | .ld t a=>.ld a.er (U.sz t) (U.st t)
 | .ldi t a=>.ldi a.er (U.sz t) (U.st t)
 | .fa t i a=>.fa a.er (offT U (U.fts t) i)
 | .fld t i x=>.fld x.er (offT U (U.fts t) i) (U.sz (tyT U t i)) (U.st (tyT U t i))
 | .ia e x y=>.ia (U.sz e) x.er y.er
 | .ix x y=>.ix x.er y.er
 | .nc x=>.nc x.er
 | .bi op x y=>.bi op x.er y.er
 | .inc i k=>.bi .add (.t i) (.c (.i k 1))
 | .dcr i k=>.bi .sub (.t i) (.c (.i k 1))
 | .bib op x y=>.bib op x.er y.er
 | .un x=>.un .not x.er
 | .cvi t k x=>.cvi k x.er
 | .cvr t x=>.cvr x.er
 | .cvb t x=>.cvb x.er
 | .neg t x=>.un .neg x.er
 | .eqf ng ks x y=>.eqf ng ks x.er y.er
 | .slc e x lo hi m=>.slc (U.sz e) x.er (erO lo) (erO hi) (erO m)
 | .slct e x hi m=>.slc (U.sz e) x.er none (some hi.er) (some m.er)
 | .slcs x lo hi=>.slcs x.er (erO lo) (erO hi)
 | .len x=>.len x.er
 | .lens x=>.lens x.er
 | .mx x y=>.mx x.er y.er
 | .mn x y=>.mn x.er y.er
 | .ext x n=>.ext x.er n
 | .mkf f a b=>.mkf (.func f) (a.map Od.er) (b.map Od.er)
 | .pk c x y=>.pk c.er x.er y.er
 | .apt t tid e s x=>.apt tid (U.sz e) s.er x.er
 | .eqn ng x=>.eqn ng x.er
 | .eqp ng x y=>.eqp ng x.er y.er
 | .eqs ng n x y=>.eqs ng n x.er y.er
 | .shr x=>.shr x.er
 | .ldd t a bs=>.ldd a.er (U.sz t) (U.st t) (bs.map .t)
 | .capn x=>.capn x.er
 | .mlk q z ok m k=>.mlk q z.abs ok m.er k.er
 | .mln m=>.mln m.er
 | .sln x hi=>.sln x.er hi.er
 | .stuck=>.stuck
 | .rsl e x lo hi m=>.rsl (U.sz e) x.er (erO lo) (erO hi) (erO m)
def mkK(t:U.T)(v:View U.T U.I)(k:N U->Option R):Option R:=match U.inj t v with
 | some x=>k (.v t x)
 | none=>none
def bK(b:Bool)(k:N U->Option R):Option R:=k (.v U.tb (U.bv b))
def ldN(t:U.T)(n:N U)(j:Nat)(p:List Nat)(k:N U->Option R):Option R:=match getN n p with
 | some m=>bif Nat.beq (offN n p) j && Nat.beq m.sz (U.sz t) && (bif m.st then U.st t else !U.st t)then k m else none
 | none=>none
def biK(t:U.T)(op:BinOp)(kd:IntKind)(a b:Int)(k:N U->Option R):Option R:=match op with
 | .add=>mkK t (.int kd (kd.wrap (a+b))) k
 | .sub=>mkK t (.int kd (kd.wrap (a-b))) k
 | .mul=>mkK t (.int kd (kd.wrap (a * b))) k
 | .quo=>if b=0 then none else mkK t (.int kd (kd.wrap (a.tdiv b))) k
 | .rem=>if b=0 then none else mkK t (.int kd (a.tmod b)) k
 | .eql=>bK (decide (a=b)) k
 | .neq=>bK (!decide (a=b)) k
 | .lss=>bK (decide (a<b)) k
 | .leq=>bK (decide (a<=b)) k
 | .gtr=>bK (decide (b<a)) k
 | .geq=>bK (decide (b<=a)) k
 | _=>none
def bsK(t:U.T)(op:BinOp)(a b:ByteArray)(k:N U->Option R):Option R:=match op with
 | .add=>if a.size+b.size<=LIM then mkK t (.str (a++b)) k else none
 | .eql=>bK (decide (a=b)) k
 | .neq=>bK (!decide (a=b)) k
 | .lss=>bK (blt a b) k
 | _=>none
def bbK(op:BinOp)(a b:Bool)(k:N U->Option R):Option R:=match op with
 | .eql=>bK (a == b) k
 | .neq=>bK (!(a == b)) k
 | _=>none
def fillN(s:St U)(z0:List (N U)):List (Nat×Od U)->List (N U)->Option (List (N U))
 | [],z=>some z
 | (i,x)::ps,z=>bif boxN (s.ev x) && Nat.beq (s.ev x).sz (nthSz z0 i) && Nat.blt i z.length then fillN s z0 ps (z.set i (s.ev x))else none
def exL(e:U.T):List (N U)->Option (List (U.I e))
 | []=>some []
 | n::ns=>match exT e n with
  | some x=>match exL e ns with
   | some l=>some (x::l)
   | none=>none
  | none=>none
def castL{e e':U.T}(l:List (U.I e')):Option (List (U.I e)):=match U.dec e' e with
 | .isTrue h=>some (h ▸ l)
 | .isFalse _=>none
def bndN(s:St U)(d:Int):Option (Od U)->Option Int
 | none=>some d
 | some x=>match intN (s.ev x)with
  | some (_,_,n)=>some n
  | none=>none
def slcL{α:Type}(l:List α)(lo hi mx:Int):Option (List α):=if 0<=lo/\lo<=hi/\hi<=mx/\mx<=l.length then some ((l.take hi.toNat).drop lo.toNat)else none
def slcT{α:Type}(l:List α)(hi mx:Int):Option (List α):=if 0<=hi/\hi=mx/\mx<=l.length then some (l.take hi.toNat)else none
def slcB(b:ByteArray)(lo hi:Int):Option ByteArray:=if 0<=lo/\lo<=hi/\hi<=b.size then some (b.extract lo.toNat hi.toNat)else none
def hasF(E:List (Nat×Fct))(i:Nat)(p:Fct->Bool):Bool:=match E with
 | []=>false
 | (d,f)::l=>Nat.beq d i && p f || hasF l i p
def Fct.isBnd:Fct->Bool
 | .bnd=>true
 | _=>false
def Fct.isPos:Fct->Bool
 | .pos=>true
 | _=>false
def neO:Option (List AV)->Option (List AV)->Bool
 | none,none=>false
 | some a,some b=>neL a b
 | _,_=>true
def eq3(r:Option (Option Bool))(f g h:Option R):Option R:=match r with
 | some (some true)=>f
 | some (some false)=>g
 | some none=>h
 | none=>none
def othN(r:Nat):N U->Bool
 | .ptr q _ _=>!Nat.beq q r
 | _=>false
def eqpN(ng:Bool)(x y:N U)(k:N U->Option R):Option R:=match y with
 | .nilp=>match x with
  | .v t a=>match U.vw t a with
   | .opt e o=>bK (bif ng then o.isSome else o.isNone) k
   | _=>none
  | .nilp=>bK (!ng) k
  | .ptr _ _ _=>bK ng k
  | _=>none
 | .v t' b=>match U.vw t' b with
  | .opt e' o'=>match x with
   | .v t a=>match U.vw t a with
    | .opt e o=>bif neO (o.map (U.C e)) (o'.map (U.C e'))then bK ng k else bif o.isNone then bK (!ng) k else k .ub
    | _=>none
   | _=>none
  | _=>none
 | _=>none
structure MpN(U:Uni) where
 q:Option IntKind
 kt:U.T
 vt:U.T
 l:List (U.I kt×U.I vt)
def mapN(H:List (HB U)):N U->Option (MpN U)
 | .v t x=>match U.vw t x with
  | .mp q kt vt _ l=>some ⟨q,kt,vt,l⟩
  | _=>none
 | .row r=>match H[r]? with
  | some (.map q kt vt l)=>some ⟨q,kt,vt,l⟩
  | _=>none
 | _=>none
def keyE(U:Uni)(t:U.T)(a b:U.I t):Bool:=match U.vw t a with
 | .str x=>match U.vw t b with
  | .str y=>decide (x=y)
  | _=>false
 | .int _ x=>match U.vw t b with
  | .int _ y=>decide (x=y)
  | _=>false
 | _=>false
def keyN(q:Option IntKind)(t:U.T)(a:U.I t):Bool:=match q with
 | none=>match U.vw t a with
  | .str _=>true
  | _=>false
 | some k=>match U.vw t a with
  | .int k' _=>decide (k=k')
  | _=>false
def qEq:Option IntKind->Option IntKind->Bool
 | none,none=>true
 | some k,some k'=>decide (k=k')
 | _,_=>false
def mget{α β:Type}(e:α->α->Bool)(k:α):List (α×β)->Option β
 | []=>none
 | p::l=>bif e k p.1 then some p.2 else mget e k l
def mput{α β:Type}(e:α->α->Bool)(k:α)(v:β):List (α×β)->List (α×β)
 | []=>[(k,v)]
 | p::l=>bif e k p.1 then(p.1,v)::l else p::mput e k v l
def qv(o:Q U)(s:St U)(k:N U->Option R):Option R:=match o with
 | .mv x=>k (s.ev x)
 | .bx x=>bif pureN (s.ev x) && boxN (s.ev x)then k (.ip (s.ev x) 0 [])else none
 | .bld t z ps=>match fillN s z ps z with
  | some l=>k (.ag t l)
  | none=>none
 | .bsl e xs=>match exL e (xs.map s.ev)with
  | some l=>k (.tl e l)
  | none=>none
 | .ld t a=>match s.ev a with
  | .ip n j p=>ldN t n j p k
  | .ptr r j p=>match boxOf s.H[r]? with
   | some n=>ldN t n j p k
   | none=>none
  | .rptr r e i j p=>match s.H[r]? with
   | some (.row _ e' l)=>bif Nat.beq (U.sz e) (U.sz e')then Option.bind (l[i]?) fun a=>ldN t (.v e' a) j p k else none
   | _=>none
  | _=>none
 | .ldi t a=>match s.ev a with
  | .ip n j p=>bif pureN n then ldN t n j p k else none
  | _=>none
 | .fa t i a=>match s.ev a with
  | .ip n j p=>k (.ip n (j+offT U (U.fts t) i) (p++[i]))
  | .ptr r j p=>k (.ptr r (j+offT U (U.fts t) i) (p++[i]))
  | .rptr r e q j p=>k (.rptr r e q (j+offT U (U.fts t) i) (p++[i]))
  | _=>none
 | .fld t i x=>ldN (tyT U t i) (s.ev x) (offT U (U.fts t) i) [i] k
 | .ia e x y=>match lstN (s.ev x),intN (s.ev y)with
  | some (_,⟨e',l⟩),some (_,_,n)=>bif Nat.beq (U.sz e) (U.sz e')then Option.bind (ixL l n) fun a=>k (.ip (.v e' a) 0 [])else none
  | none,some (_,_,n)=>match s.ev x with
   | .row r=>match s.H[r]? with
    | some (.row _ e' l)=>bif Nat.beq (U.sz e) (U.sz e')then(if 0<=n/\n<l.length then k (.rptr r e n.toNat 0 [])else none)else none
    | _=>none
   | .rv r e' lo m=>bif Nat.beq (U.sz e) (U.sz e')then(if 0<=n/\n<m then k (.rptr r e (lo+n.toNat) 0 [])else none)else none
   | _=>none
  | _,_=>none
 | .ix x y=>match strN (s.ev x),intN (s.ev y)with
  | some (_,b),some (_,_,n)=>Option.bind (ixS b n) fun c=>k (.v U.tu8 (U.cv c))
  | _,_=>none
 | .nc x=>match s.ev x with
  | .ip n j p=>k (.ip n j p)
  | .ptr r j p=>k (.ptr r j p)
  | .fn f a b=>k (.fn f a b)
  | .v t x=>match U.vw t x with
   | .opt e o=>Option.bind o fun y=>k (.ip (.v e y) 0 [])
   | _=>none
  | _=>none
 | .bi op x y=>match intN (s.ev x),intN (s.ev y)with
  | some (t,k1,a),some (_,k2,b)=>if k1=k2 then biK t op k1 a b k else none
  | _,_=>match strN (s.ev x),strN (s.ev y)with
   | some (t,a),some (_,b)=>bsK t op a b k
   | _,_=>none
 | .inc i kd=>match intN (lkN s.T i)with
  | some (t,k1,a)=>if k1=kd then mkK t (.int kd (bif hasF s.E i Fct.isBnd then a+1 else kd.wrap (a+1))) k else none
  | none=>none
 | .dcr i kd=>match intN (lkN s.T i)with
  | some (t,k1,a)=>if k1=kd then mkK t (.int kd (bif hasF s.E i Fct.isPos then a-1 else kd.wrap (a-1))) k else none
  | none=>none
 | .bib op x y=>match boolN (s.ev x),boolN (s.ev y)with
  | some a,some b=>bbK op a b k
  | _,_=>none
 | .un x=>match boolN (s.ev x)with
  | some a=>bK (!a) k
  | none=>none
 | .cvb t x=>match lstN (s.ev x)with
  | some (_,⟨e,l⟩)=>match bytesOf (l.map (U.C e))with
   | some b=>mkK t (.str (bytesS b)) k
   | none=>none
  | none=>none
 | .neg t x=>match intN (s.ev x)with
  | some (_,kd,a)=>mkK t (.int kd (kd.wrap (0-a))) k
  | none=>none
 | .eqf ng ks x y=>bif(s.ev x).st && (s.ev y).st then match eqD ks (s.ev x).cells (s.ev y).cells with
  | some b=>bK (ng ^^ b) k
  | none=>none
  else none
 | .cvr t x=>match intN (s.ev x)with
  | some (_,_,a)=>mkK t (.str (Utf8.encode a)) k
  | none=>none
 | .cvi t kd x=>match intN (s.ev x)with
  | some (_,_,a)=>mkK t (.int kd (kd.wrap a)) k
  | none=>none
 | .slc e x lo hi m=>match lstN (s.ev x)with
  | some (f,⟨e',l⟩)=>bif Nat.beq (U.sz e) (U.sz e') && !m.isSome then match bndN s 0 lo,bndN s l.length hi with
   | some a,some b=>Option.bind (slcL l a b l.length) fun l'=>mkK (tagN (s.ev x) U.tb) (.lst e' l') k
   | _,_=>none
   else none
  | none=>none
 | .slct e x hi m=>match lstN (s.ev x)with
  | some (f,⟨e',l⟩)=>bif Nat.beq (U.sz e) (U.sz e')then match intN (s.ev hi),intN (s.ev m)with
   | some (_,_,b),some (_,_,c)=>Option.bind (slcT l b c) fun l'=>k (.tl e' l')
   | _,_=>none
   else none
  | none=>none
 | .slcs x lo hi=>match strN (s.ev x)with
  | some (t,b)=>match bndN s 0 lo,bndN s b.size hi with
   | some a,some h=>Option.bind (slcB b a h) fun c=>mkK t (.str c) k
   | _,_=>none
  | none=>none
 | .len x=>match lstN (s.ev x)with
  | some (_,⟨_,l⟩)=>k (.v U.ti (U.iv l.length))
  | none=>match s.ev x with
   | .ns _=>k (.v U.ti (U.iv 0))
   | .row r=>match s.H[r]? with
    | some (.row _ _ l)=>k (.v U.ti (U.iv l.length))
    | _=>none
   | .rv _ _ _ n=>k (.v U.ti (U.iv n))
   | _=>none
 | .lens x=>match strN (s.ev x)with
  | some (_,b)=>k (.v U.ti (U.iv b.size))
  | none=>none
 | .mx x y=>match intN (s.ev x),intN (s.ev y)with
  | some (t,k1,a),some (_,k2,b)=>if k1=k2 then mkK t (.int k1 (max a b)) k else none
  | _,_=>none
 | .mn x y=>match intN (s.ev x),intN (s.ev y)with
  | some (t,k1,a),some (_,k2,b)=>if k1=k2 then mkK t (.int k1 (min a b)) k else none
  | _,_=>none
 | .ext x n=>match s.ev x with
  | .tup vs=>match vs[n]? with
   | some v=>k v
   | none=>none
  | _=>none
 | .mkf f a b=>k (.fn f (a.map s.ev) (b.map s.ev))
 | .pk c x y=>match boolN (s.ev c)with
  | some b=>bif b then k (s.ev x)else k (s.ev y)
  | none=>none
 | .apt t tid e a x=>match s.ev a with
  | .ns _=>match lstN (s.ev x)with
   | some (_,⟨e',l⟩)=>bif Nat.beq (U.sz e') (U.sz e)then(if l.length<=LIM then mkK t (.lst e' l) k else none)else none
   | none=>none
  | .tl e1 l1=>match lstN (s.ev x)with
   | some (_,⟨e',l⟩)=>bif Nat.beq (U.sz e1) (U.sz e)then match castL (e:=e1) l with
    | some l'=>if l1.length+l'.length<=LIM then mkK t (.lst e1 (l1++l')) k else none
    | none=>none
    else none
   | none=>none
  | _=>none
 | .eqn ng x=>match lstN (s.ev x)with
  | some (_,⟨_,l⟩)=>bif l.isEmpty then k .ub else bK ng k
  | none=>match s.ev x with
   | .ns _=>bK (!ng) k
   | .row r=>match s.H[r]? with
    | some (.row _ _ l)=>bif l.isEmpty then k .ub else bK ng k
    | _=>none
   | .rv _ _ _ _=>k .ub
   | _=>none
 | .eqp ng x y=>eqpN ng (s.ev x) (s.ev y) k
 | .eqs ng n x y=>bif(s.ev x).st && (s.ev y).st && Nat.beq (s.ev x).sz n then eq3 (eqC (s.ev x).cells (s.ev y).cells) (bK (!ng) k) (bK ng k) (k .ub)else none
 | .ldd t a bs=>match s.ev a with
  | .ptr r j p=>bif bs.all fun b=>othN r (lkN s.T b)then(match boxOf s.H[r]? with
   | some n=>ldN t n j p k
   | none=>none)else none
  | _=>none
 | .shr x=>match intN (s.ev x)with
  | some (t,kd,a)=>mkK t (.int kd (a / 2)) k
  | none=>none
 | .capn x=>match s.ev x with
  | .ns _=>k (.v U.ti (U.iv 0))
  | _=>none
 | .mlk q z ok m k'=>match mapN s.H (s.ev m)with
  | some mm=>match exT mm.kt (s.ev k')with
   | some key=>match exT mm.vt z with
    | some zv=>bif qEq q mm.q && keyN q mm.kt key then(bif ok then k (.tup [.v mm.vt ((mget (keyE U mm.kt) key mm.l).getD zv),.v U.tb (U.bv (mget (keyE U mm.kt) key mm.l).isSome)])else k (.v mm.vt ((mget (keyE U mm.kt) key mm.l).getD zv)))else none
    | none=>none
   | none=>none
  | none=>none
 | .mln m=>match mapN s.H (s.ev m)with
  | some mm=>k (.v U.ti (U.iv mm.l.length))
  | none=>none
 | .sln x hi=>match s.ev x,intN (s.ev hi)with
  | .ns e,some (_,_,n)=>if n=0 then k (.ns e)else none
  | _,_=>none
 | .stuck=>none
 | .rsl e x lo hi m=>match s.ev x with
  | .row r=>match s.H[r]? with
   | some (.row _ e' l)=>bif Nat.beq (U.sz e) (U.sz e')then match bndN s 0 lo,bndN s l.length hi,bndN s l.length m with
    | some a,some b,some c=>if 0<=a/\a<=b/\b<=c/\c<=l.length then(bif m.isSome then k .u else k (.rv r e a.toNat (b.toNat-a.toNat)))else none
    | _,_,_=>none
    else none
   | _=>none
  | .rv r e' lo0 n0=>match s.H[r]? with
   | some (.row _ _ l)=>bif Nat.beq (U.sz e) (U.sz e')then match bndN s 0 lo,bndN s n0 hi,bndN s ((bif Nat.beq lo0 0 then l.length else n0:Nat):Int) m with
    | some a,some b,some c=>if 0<=a/\a<=b/\b<=c/\c<=((bif Nat.beq lo0 0 then l.length else n0:Nat):Int)then(bif m.isSome then k .u else k (.rv r e (lo0+a.toNat) (b.toNat-a.toNat)))else none
    | _,_,_=>none
    else none
   | _=>none
  | _=>none
end
end Go.Ab.X

set_option linter.all false
namespace Go.Ab.X
open Go.RowKit Go.Ab
section
variable {U:Uni} {R:Type}
def Fct.ok(s:St U)(d:Nat):Fct->Prop
 | .lt i j=>∃ ti k a tj m,intN (lkN s.T i)=some (ti,k,a)/\intN (lkN s.T j)=some (tj,k,m)/\boolN (lkN s.T d)=some (decide (a<m))
 | .ltc i=>∃ t k a m,intN (lkN s.T i)=some (t,k,a)/\boolN (lkN s.T d)=some (decide (a<m))/\m<=k.max
 | .gt i=>∃ t k a m,intN (lkN s.T i)=some (t,k,a)/\boolN (lkN s.T d)=some (decide (m<a))/\0<=m
 | .bnd=>∃ t k a,intN (lkN s.T d)=some (t,k,a)/\k.min<=a/\a<k.max
 | .pos=>∃ t k a,intN (lkN s.T d)=some (t,k,a)/\0<a/\a<=k.max
 | .eq i=>lkN s.T d=lkN s.T i
def FOk(s:St U):Prop:=∀ d f,(d,f)∈s.E->f.ok s d
theorem hasF_ok{E:List (Nat×Fct)}{i:Nat}{p:Fct->Bool}(h:hasF E i p=true):∃ f,(i,f)∈E/\p f=true:=by
 induction E with
 | nil=>simp[hasF]at h
 | cons x E ih =>
  obtain⟨d,f⟩:=x
  simp only[hasF,Bool.or_eq_true,Bool.and_eq_true]at h
  rcases h with⟨h1,h2⟩|h
  ·obtain rfl:=Nat.eq_of_beq_eq_true h1
   exact⟨f,by simp,h2⟩
  ·obtain⟨f',h1,h2⟩:=ih h
   exact⟨f',by simp[h1],h2⟩
theorem bnd_of{s:St U}(hE:FOk s){i:Nat}(h:hasF s.E i Fct.isBnd=true):∃ t k a,intN (lkN s.T i)=some (t,k,a)/\k.min<=a/\a<k.max:=by
 obtain⟨f,h1,h2⟩:=hasF_ok h
 cases f<;>simp only[Fct.isBnd,Bool.false_eq_true]at h2
 exact hE _ _ h1
theorem pos_of{s:St U}(hE:FOk s){i:Nat}(h:hasF s.E i Fct.isPos=true):∃ t k a,intN (lkN s.T i)=some (t,k,a)/\0<a/\a<=k.max:=by
 obtain⟨f,h1,h2⟩:=hasF_ok h
 cases f<;>simp only[Fct.isPos,Bool.false_eq_true]at h2
 exact hE _ _ h1
theorem wrap_in{k:IntKind}{n:Int}(h1:k.min<=n)(h2:n<=k.max):k.wrap n=n:=by
 cases k<;>simp only[IntKind.wrap,IntKind.min,IntKind.max,IntKind.signed,IntKind.bits]at *<;>simp at *<;>(try split)<;>omega
section
variable (hU:U.Ok)
include hU
theorem mkK_ok{t:U.T}{v:View U.T U.I}{k:N U->Option R}{r:R}(h:mkK t v k=some r):∃ x,U.vw t x=v/\k (.v t x)=some r:=by
 unfold mkK at h
 split at h
 ·rename_i x hx;exact⟨x,hU.inj_ok _ _ _ hx,h⟩
 ·cases h
theorem bK_ok{b:Bool}{k:N U->Option R}{r:R}(h:bK b k=some r):∃ n:N U,k n=some r/\some (AV.b b)=some n.abs:=
 ⟨_,h,by rw[abs_tb hU]⟩
theorem ldN_ok{t:U.T}{n:N U}{j:Nat}{p:List Nat}{k:N U->Option R}{r:R}(h:ldN t n j p k=some r) :
  ∃ m,k m=some r/\rdCells (n.cells.drop j) (U.sz t) (U.st t)=some m.abs:=by
 unfold ldN at h
 split at h
 ·rename_i m hm
  cases hc:(Nat.beq (offN n p) j && Nat.beq m.sz (U.sz t) && (bif m.st then U.st t else !U.st t))<;>rw[hc]at h
  ·cases h
  ·simp only[Bool.and_eq_true]at hc
   obtain⟨⟨c1,c2⟩,c3⟩:=hc
   have c1:=Nat.eq_of_beq_eq_true c1
   have c2:=Nat.eq_of_beq_eq_true c2
   obtain⟨a,b,h1,h2⟩:=get_cells hU hm
   refine⟨m,h,?_⟩
   rw[h1,<-c1,<-h2,List.drop_left]
   have hl:m.cells.length=m.sz:=sz_cells hU m
   cases hs:m.st<;>rw[hs]at c3
   ·have:U.st t=false:=by simpa using c3
    rw[this,rdCells,cond_false,st_cell hU m hs]
    rfl
   ·have:U.st t=true:=by simpa using c3
    rw[this,rdCells,cond_true,if_pos (by rw[List.length_append];omega),<-c2,<-hl,List.take_left,<-st_agg hU m hs]
 ·cases h
theorem biK_ok{t:U.T}{op:BinOp}{kd:IntKind}{a b:Int}{k:N U->Option R}{r:R}(h:biK t op kd a b k=some r):∃ n,k n=some r/\biI op kd a b=some n.abs:=by
 have key:∀ v,mkK t (.int kd v) k=some r->∃ n,k n=some r/\some (AV.i kd v)=some n.abs:=by
  intro v h
  obtain⟨x,h1,h2⟩:=mkK_ok hU h
  exact⟨_,h2,by rw[N.abs,V_int hU h1]⟩
 unfold biK at h
 unfold biI
 split at h
 case h_4|h_5 =>
  split at h
  ·cases h
  ·rename_i hb
   simp only[if_neg hb]
   exact key _ h
 all_goals first
  | exact key _ h
  | exact bK_ok hU h
  | cases h
theorem bsK_ok{t:U.T}{op:BinOp}{a b:ByteArray}{k:N U->Option R}{r:R}(h:bsK t op a b k=some r):∃ n,k n=some r/\biS op a b=some n.abs:=by
 unfold bsK at h
 unfold biS
 split at h
 case h_1 =>
  split at h
  ·rename_i hb
   simp only[if_pos hb]
   obtain⟨x,h1,h2⟩:=mkK_ok hU h
   exact⟨_,h2,by rw[N.abs,V_str hU h1]⟩
  ·cases h
 all_goals first
  | exact bK_ok hU h
  | cases h
theorem bbK_ok{op:BinOp}{a b:Bool}{k:N U->Option R}{r:R}(h:bbK op a b k=some r):∃ n,k n=some r/\biB op a b=some n.abs:=by
 unfold bbK at h
 unfold biB
 split at h
 all_goals first
  | exact bK_ok hU h
  | cases h
theorem szs_set{z:List (N U)}{i:Nat}{m:N U}(hm:m.sz=nthSz z i)(j:Nat):szs ((z.set i m).take j)=szs (z.take j)/\nthSz (z.set i m) j=nthSz z j:=by
 induction z generalizing i j with
 | nil=>simp[nthSz]
 | cons x z ih =>
  cases i with
  | zero =>
   simp only[nthSz,List.getElem?_cons_zero]at hm
   cases j with
   | zero=>simp[nthSz,szs,hm]
   | succ j=>simp[nthSz,szs,hm]
  | succ i =>
   cases j with
   | zero=>simp[nthSz,szs]
   | succ j =>
    have:=ih (i:=i) (by simpa [nthSz] using hm) j
    simp only[List.set_cons_succ,List.take_succ_cons,szs,this.1,true_and]
    simpa [nthSz] using this.2
theorem fill_ok(β:Nat->Value){s:St U}{z0:List (N U)}:∀ {ps:List (Nat×Od U)} {z l:List (N U)},(∀ j,szs (z.take j)=szs (z0.take j)/\nthSz z j=nthSz z0 j)->fillN s z0 ps z=some l ->
  fills (absS β s).ev (ps.map fun p=>(szs (z0.take p.1),nthSz z0 p.1,p.2.er)) (absC z)=some (absC l)
 | [],z,l,hz,h=>by
  simp only[fillN,Option.some.injEq]at h
  subst h;rfl
 | (i,x)::ps,z,l,hz,h=>by
  simp only[fillN]at h
  cases hc:(boxN (s.ev x) && Nat.beq (s.ev x).sz (nthSz z0 i) && Nat.blt i z.length)<;>rw[hc]at h
  ·cases h
  ·simp only[Bool.and_eq_true]at hc
   obtain⟨⟨c1,c2⟩,c3⟩:=hc
   have c2:=Nat.eq_of_beq_eq_true c2
   have c3:i<z.length:=by simpa [Nat.blt_eq] using c3
   obtain⟨f,hf⟩:∃ f,z[i]? = some f:=⟨z[i],by simp[c3]⟩
   have hm:(s.ev x).sz=nthSz z i:=by rw[(hz i).2];exact c2
   have k1:=absC_split hU hf
   have k2:=absC_split hU (fs:=z.set i (s.ev x)) (i:=i) (f:=s.ev x) (by simp[List.getElem?_set,c3])
   rw[List.take_set_of_le (Nat.le_refl i),List.drop_set_of_lt (Nat.lt_succ_self i)]at k2
   have l1:(cellsOf (s.ev x).abs).length=(s.ev x).sz:=sz_cells hU _
   have l2:f.cells.length=f.sz:=sz_cells hU f
   have l3:f.sz=nthSz z0 i:=by rw[<-(hz i).2];simp[nthSz,hf]
   have l4:(absC (z.take i)).length=szs (z0.take i):=by rw[szs_cells hU,(hz i).1]
   simp only[List.map_cons,fills,ev_abs]
   have ht:(absC z).take (szs (z0.take i))=absC (z.take i):=by rw[k1,<-l4,List.take_left]
   have hd:(absC z).drop (szs (z0.take i)+nthSz z0 i)=absC (z.drop (i+1)):=by
    rw[k1,<-l4,<-List.drop_drop,List.drop_left,<-l3,<-l2,List.drop_left]
   have hlen:szs (z0.take i)+nthSz z0 i<=(absC z).length:=by
    rw[k1,List.length_append,List.length_append,l4,l2,l3];omega
   rw[if_pos ⟨by rw[l1];exact c2,hlen,boxN_ok hU c1⟩,ht,hd]
   have:=fill_ok β (s:=s) (z0:=z0) (ps:=ps) (z:=z.set i (s.ev x)) (l:=l) (fun j=>by rw[(szs_set hU hm j).1,(szs_set hU hm j).2];exact hz j) h
   rw[k2]at this
   rw[List.append_assoc]
   exact this
theorem exL_ok{e:U.T}:∀ {ns:List (N U)} {l:List (U.I e)},exL e ns=some l->ns.map N.cells=l.map (U.C e)/\∀ n∈ns,boxB n.abs=true
 | [],l,h=>by simp only[exL,Option.some.injEq]at h;subst h;exact⟨rfl,fun _ h=>by cases h⟩
 | n::ns,l,h=>by
  simp only[exL]at h
  split at h
  ·rename_i x hx
   split at h
   ·rename_i l' hl
    obtain rfl:=Option.some.inj h
    have h1:=exT_ok hU e n hx
    have h2:=exL_ok hl
    refine⟨by simp only[List.map_cons,h2.1,N.cells,h1,cells_V hU],fun m hm=>?_⟩
    rcases List.mem_cons.1 hm with rfl|hm
    ·rw[h1];exact V_box hU e x
    ·exact h2.2 m hm
   ·cases h
  ·cases h
theorem exT_cells{e:U.T}{n:N U}{x:U.I e}(h:exT e n=some x):n.cells=U.C e x:=by
 unfold N.cells;rw[exT_ok hU e n h,cells_V hU]
theorem bnd_ok(β:Nat->Value){s:St U}{d:Nat}{x:Option (Od U)}{a:Int}(h:bndN s d x=some a)(ha:0<=a):bnd (absS β s).ev d (erO x)=some a.toNat:=by
 cases x with
 | none=>simp only[bndN,Option.some.injEq]at h;subst h;simp[erO,bnd]
 | some x =>
  simp only[bndN]at h
  split at h
  ·rename_i t k n hn
   obtain rfl:=Option.some.inj h
   simp only[erO,bnd,ev_abs,intN_ok hU hn,if_pos ha]
  ·cases h
theorem evs_abs(β:Nat->Value)(s:St U)(l:List (Od U)):(l.map Od.er).map (absS β s).ev=absL (l.map s.ev):=by
 rw[absL_eq,List.map_map,List.map_map]
 exact List.map_congr_left fun x _=>ev_abs β s x
theorem absL_get{l:List (N U)}{i:Nat}{v:N U}(h:l[i]? = some v):(absL l)[i]? = some v.abs:=by
 rw[absL_eq,List.getElem?_map,h];rfl
theorem bind_some'{α γ:Type}{o:Option α}{f:α->Option γ}{r:γ}(h:Option.bind o f=some r):∃ a,o=some a/\f a=some r:=by
 cases o with
 | none=>cases h
 | some a=>exact⟨a,rfl,h⟩
theorem castL_ok{e e':U.T}{l:List (U.I e')}{l':List (U.I e)}(h:castL (e:=e) l=some l'):(⟨e',l⟩:(e:U.T)×List (U.I e))=⟨e,l'⟩:=by
 unfold castL at h
 split at h
 ·rename_i he _
  subst he
  simpa using h
 ·cases h
theorem H_box(β:Nat->Value){s:St U}{r:Nat}{t:TypeId}{n:N U}(h:s.H[r]? = some (.box t n)):(absS β s).H[r]? = some (.box t n.cells):=by
 simp only[absS,absH_get,h];rfl
theorem H_row(β:Nat->Value){s:St U}{r:Nat}{t:TypeId}{e:U.T}{l:List (U.I e)}(h:s.H[r]? = some (.row t e l)):(absS β s).H[r]? = some (.row t (U.sz e) (l.map (U.C e))):=by
 simp only[absS,absH_get,h];rfl
theorem ixL_get{α:Type}{l:List α}{n:Int}{a:α}(h:ixL l n=some a):0<=n/\l[n.toNat]? = some a:=by
 unfold ixL at h
 split at h
 ·rename_i h0;exact⟨h0,h⟩
 ·cases h
omit hU in
theorem qEq_ok{a b:Option IntKind}(h:qEq a b=true):a=b:=by
 cases a<;>cases b<;>simp only[qEq,Bool.false_eq_true,decide_eq_true_eq]at h
 ·rfl
 ·rw[h]
theorem keyE_ok{t:U.T}(a b:U.I t):keyEq (V U t a) (V U t b)=keyE U t a b:=by
 have hv:∀ x:U.I t,(∃ s,U.vw t x=.str s)\/(∃ k n,U.vw t x=.int k n)\/((∀ s,U.vw t x≠.str s)/\(∀ k n,U.vw t x≠.int k n)/\(∀ s,V U t x≠.s s)/\∀ k n,V U t x≠.i k n):=by
  intro x
  have e:V U t x=bif(U.vw t x).isRec then .agg (cellsV U.C U.sz (U.vw t x))else(cellsV U.C U.sz (U.vw t x)).headD .u:=by unfold V;rw[hU.stv t x,hU.cvw t x]
  cases hx:U.vw t x with
  | str s=>exact .inl ⟨s,rfl⟩
  | int k n=>exact .inr (.inl ⟨k,n,rfl⟩)
  | opt e' o=>rw[hx]at e;refine .inr (.inr ⟨by simp,by simp,?_,?_⟩)<;>(intros;rw[e];cases o<;>simp[View.isRec,cellsV])
  | _=>rw[hx]at e;refine .inr (.inr ⟨by simp,by simp,?_,?_⟩)<;>(intros;rw[e];simp[View.isRec,cellsV])
 unfold keyE
 rcases hv a with⟨x,ha⟩|⟨k,n,ha⟩|⟨a1,a2,a3,a4⟩
 ·rw[V_str hU ha,ha]
  rcases hv b with⟨y,hb⟩|⟨k',m,hb⟩|⟨b1,b2,b3,b4⟩
  ·rw[V_str hU hb,hb];rfl
  ·rw[V_int hU hb,hb];rfl
  ·cases hb:V U t b<;>cases hb':U.vw t b<;>first|rfl|exact absurd hb (b3 _)|exact absurd hb' (b1 _)
 ·rw[V_int hU ha,ha]
  rcases hv b with⟨y,hb⟩|⟨k',m,hb⟩|⟨b1,b2,b3,b4⟩
  ·rw[V_str hU hb,hb];rfl
  ·rw[V_int hU hb,hb];rfl
  ·cases hb:V U t b<;>cases hb':U.vw t b<;>first|rfl|exact absurd hb (b4 _ _)|exact absurd hb' (b2 _ _)
 ·cases ha:V U t a<;>cases ha':U.vw t a<;>first|rfl|exact absurd ha (a3 _)|exact absurd ha (a4 _ _)|exact absurd ha' (a1 _)|exact absurd ha' (a2 _ _)
theorem keyN_ok{q:Option IntKind}{t:U.T}{a:U.I t}(h:keyN q t a=true):keyOk q (V U t a)=true:=by
 unfold keyN at h
 split at h
 ·split at h
  ·rename_i hv;rw[V_str hU hv];rfl
  ·cases h
 ·split at h
  ·rename_i hv;rw[V_int hU hv];simpa [keyOk] using h
  ·cases h
theorem mget_ok{kt vt:U.T}(key:U.I kt):∀ l:List (U.I kt×U.I vt),lkM (V U kt key) (entM kt vt l)=(mget (keyE U kt) key l).map (V U vt)
 | []=>rfl
 | p::l=>by
  show lkM (V U kt key) ([V U kt p.1,V U vt p.2]::entM kt vt l)=_
  simp only[lkM,mget,keyE_ok hU]
  cases keyE U kt key p.1
  ·exact mget_ok key l
  ·rfl
theorem mput_ok{kt vt:U.T}(key:U.I kt)(v:U.I vt):∀ l:List (U.I kt×U.I vt),upM (V U kt key) (V U vt v) (entM kt vt l)=entM kt vt (mput (keyE U kt) key v l)
 | []=>rfl
 | p::l=>by
  show upM (V U kt key) (V U vt v) ([V U kt p.1,V U vt p.2]::entM kt vt l)=_
  simp only[upM,mput,keyE_ok hU]
  cases keyE U kt key p.1
  ·simp only[cond_false];rw[mput_ok key v l];rfl
  ·rfl
theorem V_map{t:U.T}{x:U.I t}{q:Option IntKind}{kt vt:U.T}{sb:Bool}{l:List (U.I kt×U.I vt)}(h:U.vw t x=.mp q kt vt sb l):V U t x=.mv q (entM kt vt l):=by
 obtain⟨hs,hk⟩:=hU.mps _ _ _ _ _ _ _ h
 unfold entM V;rw[hU.stv t x,hU.cvw t x,h,hs,hk];rfl
theorem mapN_ok(β:Nat->Value){H:List (HB U)}{n:N U}{mm:MpN U}(h:mapN H n=some mm):mapOf (absH β 0 H) n.abs=some (mm.q,entM mm.kt mm.vt mm.l):=by
 cases n<;>simp only[mapN,reduceCtorEq]at h
 case v t x =>
  split at h
  ·rename_i hv
   obtain rfl:=Option.some.inj h
   simp only[N.abs,V_map hU hv,mapOf]
  ·cases h
 case row r =>
  split at h
  ·rename_i hr
   obtain rfl:=Option.some.inj h
   simp only[N.abs,mapOf,absH_get,hr,Option.map_some,absB]
  ·cases h
theorem qv_ok(β:Nat->Value){o:Q U}{s:St U}{k:N U->Option R}{r:R}(hE:FOk s)(h:qv o s k=some r) :
  ∃ n,k n=some r/\ov (absS β s).ev (absS β s).H o.er=some n.abs:=by
 cases o with
 | mv x=>exact⟨_,h,by simp only[Q.er,ov,ev_abs]⟩
 | bx x =>
  simp only[qv]at h
  cases hc:(pureN (s.ev x) && boxN (s.ev x))<;>rw[hc]at h
  ·cases h
  ·simp only[Bool.and_eq_true]at hc
   exact⟨_,h,by simp only[Q.er,ov,ev_abs,pureN_ok hU hc.1,boxN_ok hU hc.2,Bool.and_self,cond_true,N.abs,List.drop_zero]⟩
 | bld t z ps =>
  simp only[qv]at h
  split at h
  ·rename_i l hl
   exact⟨_,h,by simp only[Q.er,ov];rw[fill_ok hU β (fun _=>⟨rfl,rfl⟩) hl];rfl⟩
  ·cases h
 | bsl e xs =>
  simp only[qv]at h
  split at h
  ·rename_i l hl
   obtain⟨h1,h2⟩:=exL_ok hU hl
   refine⟨_,h,?_⟩
   have e1:(xs.map Od.er).map (fun x=>cellsOf ((absS β s).ev x))=l.map (U.C e):=by
    rw[<-h1,List.map_map,List.map_map]
    exact List.map_congr_left fun x _=>by simp only[Function.comp,ev_abs];rfl
   have e2:(xs.map Od.er).all (fun x=>boxB ((absS β s).ev x))=true:=by
    rw[List.all_eq_true]
    intro y hy
    obtain⟨x,hx,rfl⟩:=List.mem_map.1 hy
    rw[ev_abs]
    exact h2 _ (List.mem_map.2 ⟨x,hx,rfl⟩)
   have e3:(l.map (U.C e)).all (fun el=>el.length == U.sz e)=true:=by
    rw[List.all_eq_true]
    intro y hy
    obtain⟨x,hx,rfl⟩:=List.mem_map.1 hy
    simp[hU.len]
   simp only[Q.er,ov,e1,e2,e3,pureE_C hU,Bool.and_self,cond_true,N.abs]
  ·cases h
 | ld t a =>
  simp only[qv]at h
  simp only[Q.er,ov,ev_abs]
  split at h
  ·rename_i n j p hx
   obtain⟨m,h1,h2⟩:=ldN_ok hU h
   exact⟨m,h1,by rw[hx];exact h2⟩
  ·rename_i q j p hx
   split at h
   ·rename_i n hr
    obtain⟨m,h1,h2⟩:=ldN_ok hU h
    obtain⟨tid,hr⟩:=boxOf_ok β hr
    exact⟨m,h1,by rw[hx];simp only[N.abs,absS,hr];exact h2⟩
   ·cases h
  ·rename_i q e i j p hx
   split at h
   ·rename_i tid e' l hr
    cases hc:Nat.beq (U.sz e) (U.sz e')<;>rw[hc]at h
    ·cases h
    ·have hc:=Nat.eq_of_beq_eq_true hc
     obtain⟨a,ha,h⟩:=bind_some' hU h
     obtain⟨m,h1,h2⟩:=ldN_ok hU h
     refine⟨m,h1,?_⟩
     rw[cells_v hU]at h2
     rw[hx]
     simp only[N.abs,H_row hU β hr,hc,BEq.rfl,cond_true,List.getElem?_map,ha,Option.map_some]
     exact h2
   ·cases h
  ·cases h
 | ldd t a bs =>
  simp only[qv]at h
  simp only[Q.er,ov,ev_abs]
  split at h
  ·rename_i q j p hx
   cases hall:(bs.all fun b=>othN q (lkN s.T b))<;>rw[hall]at h
   ·cases h
   ·simp only[cond_true]at h
    split at h
    ·rename_i n hr
     obtain⟨m,h1,h2⟩:=ldN_ok hU h
     obtain⟨tid,hr⟩:=boxOf_ok β hr
     have hall':((bs.map Opd.t).all fun b=>othB q ((absS β s).ev b))=true:=by
      rw[List.all_eq_true]at hall ⊢
      intro b hb
      obtain⟨c,hc,rfl⟩:=List.mem_map.1 hb
      have:=hall c hc
      show othB q (lk (absT s.T) c)=true
      rw[lk_abs]
      revert this
      cases lkN s.T c<;>simp[othN,N.abs,othB]
      rename_i q' _ _
      intro h e
      rw[e]at h;simp at h
     exact⟨m,h1,by rw[hx];simp only[N.abs,hall',cond_true];simp only[absS,hr];exact h2⟩
    ·cases h
  ·cases h
 | ldi t a =>
  simp only[qv]at h
  simp only[Q.er,ov,ev_abs]
  split at h
  ·rename_i n j p hx
   cases hp:pureN n<;>rw[hp]at h
   ·cases h
   ·simp only[cond_true]at h
    obtain⟨m,h1,h2⟩:=ldN_ok hU h
    refine⟨m,h1,?_⟩
    rw[hx]
    simp only[N.abs]
    rw[show pureL (List.drop j (cellsOf n.abs))=true from pureL_drop (pureL_cells hU (pureN_ok hU hp)) _]
    exact h2
  ·cases h
 | fa t i a =>
  simp only[qv]at h
  simp only[Q.er,ov,ev_abs]
  split at h
  ·rename_i n j p hx
   exact⟨_,h,by rw[hx];simp only[N.abs,List.drop_drop]⟩
  ·rename_i q j p hx
   exact⟨_,h,by rw[hx];rfl⟩
  ·rename_i q e i' j p hx
   exact⟨_,h,by rw[hx];rfl⟩
  ·cases h
 | fld t i x =>
  simp only[qv]at h
  simp only[Q.er,ov,ev_abs]
  obtain⟨m,h1,h2⟩:=ldN_ok hU h
  unfold ldN at h
  split at h
  ·rename_i m' hm
   cases hf:(s.ev x).fields with
   | none=>simp[getN,hf]at hm
   | some fs =>
    obtain⟨f1,f2,f3⟩:=fields_ok hU hf
    refine⟨m,h1,?_⟩
    have hle:offT U (U.fts t) i+U.sz (tyT U t i)<=(s.ev x).cells.length:=by
     cases hc:(Nat.beq (offN (s.ev x) [i]) (offT U (U.fts t) i) && Nat.beq m'.sz (U.sz (tyT U t i)) && (bif m'.st then U.st (tyT U t i)else !U.st (tyT U t i)))<;>rw[hc]at h
     ·cases h
     ·simp only[Bool.and_eq_true]at hc
      obtain⟨a,b,k1,k2⟩:=get_cells hU hm
      rw[k1,List.length_append,List.length_append,k2,Nat.eq_of_beq_eq_true hc.1.1]
      have:m'.cells.length=m'.sz:=sz_cells hU m'
      rw[this,Nat.eq_of_beq_eq_true hc.1.2]
      omega
    rw[st_agg hU _ f3]
    simp only[if_pos hle]
    exact h2
  ·cases h
 | ia e x y =>
  simp only[qv]at h
  simp only[Q.er,ov,ev_abs]
  split at h
  ·rename_i f e' l kt kk n hl hn
   cases hc:Nat.beq (U.sz e) (U.sz e')<;>rw[hc]at h
   ·cases h
   ·have hc:=Nat.eq_of_beq_eq_true hc
    obtain⟨a,ha,h⟩:=bind_some' hU h
    obtain⟨k1,k2⟩:=ixL_get hU ha
    refine⟨_,h,?_⟩
    rw[lstN_ok hU hl,intN_ok hU hn]
    simp only[if_pos (And.intro k1 hc),List.getElem?_map,k2,Option.map_some,N.abs,cells_V hU,List.drop_zero]
  ·rename_i kt kk n hl hn
   split at h
   ·rename_i q hq
    split at h
    ·rename_i tid e' l hr
     cases hc:Nat.beq (U.sz e) (U.sz e')<;>rw[hc]at h
     ·cases h
     ·have hc:=Nat.eq_of_beq_eq_true hc
      simp only[cond_true]at h
      split at h
      ·rename_i hb
       refine⟨_,h,?_⟩
       rw[hq,intN_ok hU hn]
       simp only[N.abs,H_row hU β hr,List.length_map,if_pos (show 0<=n/\n<(l.length:Int)/\U.sz e=U.sz e' from⟨hb.1,hb.2,hc⟩)]
      ·cases h
    ·cases h
   ·rename_i q e' lo m hq
    cases hc:Nat.beq (U.sz e) (U.sz e')<;>rw[hc]at h
    ·cases h
    ·have hc:=Nat.eq_of_beq_eq_true hc
     simp only[cond_true]at h
     split at h
     ·rename_i hb
      refine⟨_,h,?_⟩
      rw[hq,intN_ok hU hn]
      simp only[N.abs,if_pos (show 0<=n/\n<(m:Int)/\U.sz e=U.sz e' from⟨hb.1,hb.2,hc⟩)]
     ·cases h
   ·cases h
  ·cases h
 | ix x y =>
  simp only[qv]at h
  simp only[Q.er,ov,ev_abs]
  split at h
  ·rename_i t b kt kk n hs hn
   obtain⟨c,hc,h⟩:=bind_some' hU h
   refine⟨_,h,?_⟩
   rw[strN_ok hU hs,intN_ok hU hn]
   unfold ixS at hc
   split at hc
   ·rename_i h0
    obtain⟨c',h1,h2⟩:=Option.map_eq_some_iff.1 hc
    subst h2
    simp only[if_pos h0,h1,Option.map_some,abs_tu8 hU]
   ·cases hc
  ·cases h
 | nc x =>
  simp only[qv]at h
  simp only[Q.er,ov,ev_abs]
  split at h
  ·rename_i n j p hx;exact⟨_,h,by rw[hx];rfl⟩
  ·rename_i q j p hx;exact⟨_,h,by rw[hx];rfl⟩
  ·rename_i f a b hx;exact⟨_,h,by rw[hx];rfl⟩
  ·rename_i t y hx
   split at h
   ·rename_i e o ho
    obtain⟨y',rfl,h⟩:=bind_some' hU h
    exact⟨_,h,by rw[hx];simp only[N.abs,V_ip hU ho,cells_V hU,List.drop_zero]⟩
   ·cases h
  ·cases h
 | bi op x y =>
  simp only[qv]at h
  simp only[Q.er,ov,ev_abs]
  split at h
  ·rename_i t k1 a t2 k2 b h1 h2
   split at h
   ·rename_i hk
    subst hk
    obtain⟨n,q1,q2⟩:=biK_ok hU h
    exact⟨n,q1,by rw[intN_ok hU h1,intN_ok hU h2];simpa using q2⟩
   ·cases h
  ·split at h
   ·rename_i t a t2 b h1 h2
    obtain⟨n,q1,q2⟩:=bsK_ok hU h
    exact⟨n,q1,by rw[strN_ok hU h1,strN_ok hU h2];exact q2⟩
   ·cases h
 | inc i kd =>
  simp only[qv]at h
  simp only[Q.er,ov,AS.ev]
  split at h
  ·rename_i t k1 a h1
   split at h
   ·rename_i hk
    subst hk
    obtain⟨x,q1,q2⟩:=mkK_ok hU h
    refine⟨_,q2,?_⟩
    simp only[absS,lk_abs]
    rw[intN_ok hU h1]
    simp only[if_true,biI,N.abs,V_int hU q1]
    cases hb:hasF s.E i Fct.isBnd
    ·rfl
    ·obtain⟨t',k',a',w1,w2,w3⟩:=bnd_of hE hb
     rw[h1]at w1
     cases w1
     rw[wrap_in (by omega) (by omega)]
     rfl
   ·cases h
  ·cases h
 | dcr i kd =>
  simp only[qv]at h
  simp only[Q.er,ov,AS.ev]
  split at h
  ·rename_i t k1 a h1
   split at h
   ·rename_i hk
    subst hk
    obtain⟨x,q1,q2⟩:=mkK_ok hU h
    refine⟨_,q2,?_⟩
    simp only[absS,lk_abs]
    rw[intN_ok hU h1]
    simp only[if_true,biI,N.abs,V_int hU q1]
    cases hb:hasF s.E i Fct.isPos
    ·rfl
    ·obtain⟨t',k',a',w1,w2,w3⟩:=pos_of hE hb
     rw[h1]at w1
     cases w1
     have hm:k1.min<=0:=by cases k1<;>simp[IntKind.min,IntKind.signed,IntKind.bits]
     rw[wrap_in (by omega) (by omega)]
     rfl
   ·cases h
  ·cases h
 | bib op x y =>
  simp only[qv]at h
  simp only[Q.er,ov,ev_abs]
  split at h
  ·rename_i a b h1 h2
   obtain⟨n,q1,q2⟩:=bbK_ok hU h
   exact⟨n,q1,by rw[boolN_ok hU h1,boolN_ok hU h2];exact q2⟩
  ·cases h
 | un x =>
  simp only[qv]at h
  simp only[Q.er,ov,ev_abs]
  split at h
  ·rename_i a h1
   obtain⟨n,q1,q2⟩:=bK_ok hU h
   exact⟨n,q1,by rw[boolN_ok hU h1];exact q2⟩
  ·cases h
 | cvb t x =>
  simp only[qv]at h
  simp only[Q.er,ov,ev_abs]
  split at h
  ·rename_i f e l hl
   split at h
   ·rename_i b hb
    obtain⟨y,q1,q2⟩:=mkK_ok hU h
    exact⟨_,q2,by rw[lstN_ok hU hl];simp only[hb,Option.map_some,N.abs,V_str hU q1]⟩
   ·cases h
  ·cases h
 | neg t x =>
  simp only[qv]at h
  simp only[Q.er,ov,ev_abs]
  split at h
  ·rename_i t1 kd a h1
   obtain⟨y,q1,q2⟩:=mkK_ok hU h
   exact⟨_,q2,by rw[intN_ok hU h1];simp only[N.abs,V_int hU q1]⟩
  ·cases h
 | eqf ng ks x y =>
  simp only[qv]at h
  simp only[Q.er,ov,ev_abs]
  cases hc:((s.ev x).st && (s.ev y).st)<;>rw[hc]at h
  ·cases h
  ·simp only[Bool.and_eq_true]at hc
   have hb:∀ m:N U,m.st=true->m.abs=.agg m.cells:=by
    intro m hm
    cases m<;>simp only[N.st,Bool.false_eq_true]at hm
    ·simp[N.abs,N.cells,V,hm,cellsOf]
    ·rfl
   rw[hb _ hc.1,hb _ hc.2]
   simp only[cond_true]at h
   split at h
   ·rename_i b hq
    obtain⟨n,h1,h2⟩:=bK_ok hU h
    exact⟨n,h1,by simp only[hq,Option.map_some,<-h2]⟩
   ·cases h
 | cvr t x =>
  simp only[qv]at h
  simp only[Q.er,ov,ev_abs]
  split at h
  ·rename_i t1 k1 a h1
   obtain⟨y,q1,q2⟩:=mkK_ok hU h
   exact⟨_,q2,by rw[intN_ok hU h1];simp only[N.abs,V_str hU q1]⟩
  ·cases h
 | cvi t kd x =>
  simp only[qv]at h
  simp only[Q.er,ov,ev_abs]
  split at h
  ·rename_i t1 k1 a h1
   obtain⟨y,q1,q2⟩:=mkK_ok hU h
   exact⟨_,q2,by rw[intN_ok hU h1];simp only[N.abs,V_int hU q1]⟩
  ·cases h
 | slc e x lo hi m =>
  simp only[qv]at h
  simp only[Q.er,ov,ev_abs]
  split at h
  ·rename_i f e' l hl
   cases hc:(Nat.beq (U.sz e) (U.sz e') && !m.isSome)<;>rw[hc]at h
   ·cases h
   ·simp only[Bool.and_eq_true]at hc
    have hsz:=Nat.eq_of_beq_eq_true hc.1
    cases m with
    | some m=>simp at hc
    | none =>
    simp only[cond_true]at h
    split at h
    ·rename_i a b ha hb
     obtain⟨l',h1,h⟩:=bind_some' hU h
     obtain⟨y,q1,q2⟩:=mkK_ok hU h
     unfold slcL at h1
     split at h1
     ·rename_i hcond
      obtain⟨c1,c2,c3,c4⟩:=hcond
      obtain rfl:=Option.some.inj h1
      refine⟨_,q2,?_⟩
      rw[lstN_ok hU hl]
      simp only[List.length_map]
      have b1:=bnd_ok hU β (d:=0) ha c1
      have b2:=bnd_ok hU β (d:=l.length) hb (by omega)
      rw[b1,b2]
      simp only[erO,bnd,Option.isSome_none,Bool.false_and]
      rw[if_pos ⟨by omega,by omega,Nat.le_refl _,.inr hsz.symm⟩,N.abs,C_lst hU q1,List.map_drop,List.map_take]
     ·cases h1
    ·cases h
  ·cases h
 | slct e x hi m =>
  simp only[qv]at h
  simp only[Q.er,ov,ev_abs]
  split at h
  ·rename_i f e' l hl
   cases hc:Nat.beq (U.sz e) (U.sz e')<;>rw[hc]at h
   ·cases h
   ·have hsz:=Nat.eq_of_beq_eq_true hc
    simp only[cond_true]at h
    split at h
    ·rename_i t1 k1 b t2 k2 c hb hc'
     obtain⟨l',h1,h⟩:=bind_some' hU h
     unfold slcT at h1
     split at h1
     ·rename_i hcond
      obtain⟨c1,rfl,c3⟩:=hcond
      obtain rfl:=Option.some.inj h1
      refine⟨_,h,?_⟩
      rw[lstN_ok hU hl]
      simp only[List.length_map,bnd,ev_abs,intN_ok hU hb,intN_ok hU hc',if_pos c1,Option.isSome_some,Bool.true_and,BEq.rfl]
      rw[if_pos ⟨by omega,Nat.le_refl _,by omega,.inl trivial⟩,N.abs,List.drop_zero,List.map_take]
     ·cases h1
    ·cases h
  ·cases h
 | slcs x lo hi =>
  simp only[qv]at h
  simp only[Q.er,ov,ev_abs]
  split at h
  ·rename_i t b hb
   split at h
   ·rename_i a c ha hc
    obtain⟨b',h1,h⟩:=bind_some' hU h
    obtain⟨y,q1,q2⟩:=mkK_ok hU h
    unfold slcB at h1
    split at h1
    ·rename_i hcond
     obtain⟨c1,c2,c3⟩:=hcond
     obtain rfl:=Option.some.inj h1
     refine⟨_,q2,?_⟩
     rw[strN_ok hU hb]
     have b1:=bnd_ok hU β (d:=0) ha c1
     have b2:=bnd_ok hU β (d:=b.size) hc (by omega)
     simp only[b1,b2]
     rw[if_pos ⟨by omega,by omega⟩,N.abs,V_str hU q1]
    ·cases h1
   ·cases h
  ·cases h
 | len x =>
  simp only[qv]at h
  simp only[Q.er,ov,ev_abs]
  split at h
  ·rename_i f e l hl
   exact⟨_,h,by rw[lstN_ok hU hl,abs_ti hU];simp⟩
  ·split at h
   ·rename_i hx;exact⟨_,h,by rw[hx,abs_ti hU];rfl⟩
   ·rename_i q hx
    split at h
    ·rename_i tid e l hr
     exact⟨_,h,by rw[hx,abs_ti hU];simp only[N.abs,H_row hU β hr,List.length_map]⟩
    ·cases h
   ·rename_i q e lo n hx
    exact⟨_,h,by rw[hx,abs_ti hU];rfl⟩
   ·cases h
 | lens x =>
  simp only[qv]at h
  simp only[Q.er,ov,ev_abs]
  split at h
  ·rename_i t b hb
   exact⟨_,h,by rw[strN_ok hU hb,abs_ti hU]⟩
  ·cases h
 | mx x y =>
  simp only[qv]at h
  simp only[Q.er,ov,ev_abs]
  split at h
  ·rename_i t k1 a t2 k2 b h1 h2
   split at h
   ·rename_i hk
    subst hk
    obtain⟨z,q1,q2⟩:=mkK_ok hU h
    exact⟨_,q2,by rw[intN_ok hU h1,intN_ok hU h2];simp[N.abs,V_int hU q1]⟩
   ·cases h
  ·cases h
 | mn x y =>
  simp only[qv]at h
  simp only[Q.er,ov,ev_abs]
  split at h
  ·rename_i t k1 a t2 k2 b h1 h2
   split at h
   ·rename_i hk
    subst hk
    obtain⟨z,q1,q2⟩:=mkK_ok hU h
    exact⟨_,q2,by rw[intN_ok hU h1,intN_ok hU h2];simp[N.abs,V_int hU q1]⟩
   ·cases h
  ·cases h
 | ext x n =>
  simp only[qv]at h
  simp only[Q.er,ov,ev_abs]
  split at h
  ·rename_i vs hx
   split at h
   ·rename_i v hv
    exact⟨v,h,by rw[hx];exact absL_get hU hv⟩
   ·cases h
  ·cases h
 | mkf f a b =>
  refine⟨_,h,?_⟩
  simp only[Q.er,ov,evs_abs hU,N.abs]
 | pk c x y =>
  simp only[qv]at h
  simp only[Q.er,ov,ev_abs]
  split at h
  ·rename_i b hb
   cases b
   ·exact⟨_,h,by rw[boolN_ok hU hb];rfl⟩
   ·exact⟨_,h,by rw[boolN_ok hU hb];rfl⟩
  ·cases h
 | apt t tid e a x =>
  simp only[qv]at h
  simp only[Q.er,ov,ev_abs]
  split at h
  ·rename_i e0 ha
   split at h
   ·rename_i f e' l hl
    cases hc:Nat.beq (U.sz e') (U.sz e)<;>rw[hc]at h
    ·cases h
    ·have hsz:=Nat.eq_of_beq_eq_true hc
     simp only[cond_true]at h
     split at h
     ·rename_i hlim
      obtain⟨y,q1,q2⟩:=mkK_ok hU h
      refine⟨_,q2,?_⟩
      rw[ha,lstN_ok hU hl]
      simp only[N.abs,List.length_map]
      rw[if_pos ⟨hlim,.inr hsz⟩,C_lst hU q1,hsz]
     ·cases h
   ·cases h
  ·rename_i e1 l1 ha
   split at h
   ·rename_i f e' l hl
    cases hc:Nat.beq (U.sz e1) (U.sz e)<;>rw[hc]at h
    ·cases h
    ·have hsz:=Nat.eq_of_beq_eq_true hc
     simp only[cond_true]at h
     split at h
     ·rename_i l' hcast
      have hcast:=castL_ok hU hcast
      cases hcast
      split at h
      ·rename_i hlim
       obtain⟨y,q1,q2⟩:=mkK_ok hU h
       refine⟨_,q2,?_⟩
       rw[ha,lstN_ok hU hl]
       simp only[N.abs,List.length_map]
       rw[if_pos ⟨hlim,.inr hsz,.inr hsz⟩,C_lst hU q1,hsz,List.map_append]
      ·cases h
     ·cases h
   ·cases h
  ·cases h
 | eqn ng x =>
  simp only[qv]at h
  simp only[Q.er,ov,ev_abs]
  have two:∀ {α:Type} (l:List α),(bif l.isEmpty then k .ub else bK ng k)=some r->∃ n:N U,k n=some r/\some (bif l.isEmpty then AV.ub else .b ng)=some n.abs:=by
   intro α l h
   cases hl:l.isEmpty<;>rw[hl]at h
   ·obtain⟨n,h1,h2⟩:=bK_ok hU h;exact⟨n,h1,h2⟩
   ·exact⟨_,h,rfl⟩
  split at h
  ·rename_i f e l hl
   obtain⟨n,h1,h2⟩:=two l h
   exact⟨n,h1,by rw[lstN_ok hU hl];simpa using h2⟩
  ·split at h
   ·rename_i hx
    obtain⟨n,h1,h2⟩:=bK_ok hU h
    exact⟨n,h1,by rw[hx];exact h2⟩
   ·rename_i q hx
    split at h
    ·rename_i tid e l hr
     obtain⟨n,h1,h2⟩:=two l h
     exact⟨n,h1,by rw[hx];simp only[N.abs,H_row hU β hr];simpa using h2⟩
    ·cases h
   ·rename_i q e lo n hx
    exact⟨_,h,by rw[hx];rfl⟩
   ·cases h
 | stuck=>simp[qv]at h
 | eqp ng x y =>
  simp only[qv]at h
  simp only[Q.er,ov,ev_abs]
  have b2:∀ b c:Bool,bK b k=some r->b=(ng ^^ c)->∃ n:N U,k n=some r/\some (AV.b (ng ^^ c))=some n.abs:=by
   rintro b c h rfl;exact bK_ok hU h
  unfold eqpN at h
  split at h
  ·rename_i hy
   split at h
   ·rename_i t a hx
    split at h
    ·rename_i e o hv
     rw[hx,hy]
     cases o with
     | none=>simp only[N.abs,V_nilp hU hv,eqP];exact b2 _ true h (by cases ng<;>rfl)
     | some z=>simp only[N.abs,V_ip hU hv,eqP];exact b2 _ false h (by cases ng<;>rfl)
    ·cases h
   ·rename_i hx;rw[hx,hy];simp only[N.abs,eqP];exact b2 _ true h (by cases ng<;>rfl)
   ·rename_i hx;rw[hx,hy];simp only[N.abs,eqP];exact b2 _ false h (by cases ng<;>rfl)
   ·cases h
  ·rename_i t' b hy
   split at h
   ·rename_i e' o' hv'
    split at h
    ·rename_i t a hx
     split at h
     ·rename_i e o hv
      rw[hx,hy]
      simp only[N.abs]
      cases o<;>cases o'<;>simp only[Option.map,neO,Option.isNone,cond_true,cond_false]at h
      ·rw[V_nilp hU hv,V_nilp hU hv'];exact b2 _ true h (by cases ng<;>rfl)
      ·rw[V_nilp hU hv,V_ip hU hv'];exact b2 _ false h (by cases ng<;>rfl)
      ·rw[V_ip hU hv,V_nilp hU hv'];exact b2 _ false h (by cases ng<;>rfl)
      ·rw[V_ip hU hv,V_ip hU hv']
       simp only[eqP]
       revert h
       cases neL _ _<;>intro h
       ·exact⟨_,h,rfl⟩
       ·exact b2 _ false h (by cases ng<;>rfl)
     ·cases h
    ·cases h
   ·cases h
  ·cases h
 | eqs ng n x y =>
  simp only[qv]at h
  simp only[Q.er,ov,ev_abs]
  cases hc:((s.ev x).st && (s.ev y).st && Nat.beq (s.ev x).sz n)<;>rw[hc]at h
  ·cases h
  ·simp only[Bool.and_eq_true]at hc
   obtain⟨⟨c1,c2⟩,c3⟩:=hc
   have hb:∀ m:N U,m.st=true->m.abs=.agg m.cells:=by
    intro m hm
    cases m<;>simp only[N.st,Bool.false_eq_true]at hm
    ·simp[N.abs,N.cells,V,hm,cellsOf]
    ·rfl
   rw[hb _ c1,hb _ c2]
   have hl:(s.ev x).cells.length=(s.ev x).sz:=sz_cells hU _
   simp only[cond_true,hl,c3]at h ⊢
   unfold eq3 at h
   split at h
   ·rename_i hq;rw[hq];obtain⟨m,h1,h2⟩:=bK_ok hU h;exact⟨m,h1,by rw[<-h2];cases ng<;>rfl⟩
   ·rename_i hq;rw[hq];obtain⟨m,h1,h2⟩:=bK_ok hU h;exact⟨m,h1,by rw[<-h2];cases ng<;>rfl⟩
   ·rename_i hq;rw[hq];exact⟨_,h,rfl⟩
   ·cases h
 | shr x =>
  simp only[qv]at h
  simp only[Q.er,ov,ev_abs]
  split at h
  ·rename_i t kd a hx
   obtain⟨y,h1,h2⟩:=mkK_ok hU h
   exact⟨_,h2,by rw[intN_ok hU hx,N.abs,V_int hU h1]⟩
  ·cases h
 | mlk q z ok m k' =>
  simp only[qv]at h
  split at h
  ·rename_i mm hm
   split at h
   ·rename_i key hkey
    split at h
    ·rename_i zv hz
     cases hc:(qEq q mm.q && keyN q mm.kt key)<;>rw[hc]at h
     ·cases h
     simp only[Bool.and_eq_true]at hc
     have e1:mapOf (absS β s).H ((absS β s).ev m.er)=some (mm.q,entM mm.kt mm.vt mm.l):=by rw[ev_abs];exact mapN_ok hU β hm
     have e2:(absS β s).ev k'.er=V U mm.kt key:=by rw[ev_abs,exT_ok hU mm.kt _ hkey]
     have hqq:=qEq_ok hc.1
     subst hqq
     simp only[Q.er,ov,e1,e2,beq_self_eq_true,Bool.true_and,keyN_ok hU hc.2,cond_true,mget_ok hU,exT_ok hU mm.vt z hz]at h ⊢
     cases hg:mget (keyE U mm.kt) key mm.l with
     | none =>
      rw[hg]at h
      cases ok
      ·exact⟨_,h,rfl⟩
      ·exact⟨_,h,by simp only[Option.map_none,cond_true,N.abs,absL,Option.getD_none,Option.isSome_none];rw[show V U U.tb (U.bv false)=.b false from V_bool hU (hU.vb false)]⟩
     | some v =>
      rw[hg]at h
      cases ok
      ·exact⟨_,h,rfl⟩
      ·exact⟨_,h,by simp only[Option.map_some,cond_true,N.abs,absL,Option.getD_some,Option.isSome_some];rw[show V U U.tb (U.bv true)=.b true from V_bool hU (hU.vb true)]⟩
    ·cases h
   ·cases h
  ·cases h
 | mln m =>
  simp only[qv]at h
  split at h
  ·rename_i mm hm
   have e1:mapOf (absS β s).H ((absS β s).ev m.er)=some (mm.q,entM mm.kt mm.vt mm.l):=by rw[ev_abs];exact mapN_ok hU β hm
   refine⟨_,h,?_⟩
   simp only[Q.er,ov,e1,N.abs,V_int hU (hU.vi _)]
   simp[entM]
  ·cases h
 | capn x =>
  simp only[qv]at h
  simp only[Q.er,ov,ev_abs]
  split at h
  ·rename_i e hx
   exact⟨_,h,by rw[hx];simp only[N.abs];rw[V_int hU (hU.vi 0)]⟩
  ·cases h
 | sln x hi =>
  simp only[qv]at h
  simp only[Q.er,ov,ev_abs]
  split at h
  ·rename_i e t kd n hx hn
   split at h
   ·rename_i h0
    exact⟨_,h,by rw[hx,intN_ok hU hn];simp only[N.abs];rw[if_pos h0]⟩
   ·cases h
  ·cases h
 | rsl e x lo hi m =>
  simp only[qv]at h
  simp only[Q.er,ov,ev_abs]
  have hm:(erO m).isSome=m.isSome:=by cases m<;>rfl
  split at h
  ·rename_i q hx
   split at h
   ·rename_i tid e' l hr
    cases hc:Nat.beq (U.sz e) (U.sz e')<;>rw[hc]at h
    ·cases h
    ·have hc:=Nat.eq_of_beq_eq_true hc
     simp only[cond_true]at h
     split at h
     ·rename_i a b c ha hb hc'
      split at h
      ·rename_i hcond
       obtain⟨c1,c2,c3,c4⟩:=hcond
       rw[hx]
       simp only[N.abs,H_row hU β hr,List.length_map]
       rw[bnd_ok hU β (d:=0) ha c1,bnd_ok hU β (d:=l.length) hb (by omega),bnd_ok hU β (d:=l.length) hc' (by omega)]
       simp only[]
       rw[if_pos ⟨by omega,by omega,by omega,hc⟩,hm]
       cases m with
       | none=>exact⟨_,h,rfl⟩
       | some m=>exact⟨_,h,rfl⟩
      ·cases h
     ·cases h
   ·cases h
  ·rename_i q e' lo0 n0 hx
   split at h
   ·rename_i tid e2 l hr
    cases hc:Nat.beq (U.sz e) (U.sz e')<;>rw[hc]at h
    ·cases h
    ·have hc:=Nat.eq_of_beq_eq_true hc
     simp only[cond_true]at h
     split at h
     ·rename_i a b c ha hb hc'
      split at h
      ·rename_i hcond
       obtain⟨c1,c2,c3,c4⟩:=hcond
       have e0:(lo0 == 0)=Nat.beq lo0 0:=by rw[Bool.eq_iff_iff];simp[Nat.beq_eq]
       rw[hx]
       simp only[N.abs,H_row hU β hr,List.length_map,e0]
       rw[bnd_ok hU β (d:=0) ha c1,bnd_ok hU β (d:=n0) hb (by omega),bnd_ok hU β (d:=bif Nat.beq lo0 0 then l.length else n0) hc' (by omega)]
       simp only[]
       rw[if_pos ⟨by omega,by omega,by omega,hc⟩,hm]
       cases m with
       | none=>exact⟨_,h,rfl⟩
       | some m=>exact⟨_,h,rfl⟩
      ·cases h
     ·cases h
   ·cases h
  ·cases h
end
end
end Go.Ab.X

set_option linter.all false
namespace Go.Ab.X
open Go.RowKit Go.Ab
section
variable {U:Uni} {R:Type}
inductive A(U:Uni) where
 | q (o:Q U)
 | bxm (tid:TypeId) (x:Od U)
 | alm (tid:TypeId) (z:N U)
 | st (m:Nat) (t:U.T) (a x:Od U)
 | mks (tid:TypeId) (e:U.T) (z:U.I e) (x:Od U)
 | app (tid:TypeId) (e:U.T) (s x:Od U)
 | clr (e:U.T) (z:U.I e) (x:Od U)
 | apv (tid:TypeId) (e:U.T) (s x:Od U)
 | bsr (tid:TypeId) (e:U.T)
 | mkc (tid:TypeId) (e:U.T) (x:Od U)
 | apz (tid:TypeId) (e:U.T) (z:U.I e) (s x:Od U)
 | mkm (q:Option IntKind) (kt vt:U.T)
 | mup (q:Option IntKind) (m k v:Od U)
def stK(m:Nat)(a:Opd)(n:Nat)(x:Opd):K:=match m with
 | 0=>.st a n x
 | 1=>.stb a n x
 | _=>.ste a n x
def A.er:A U->K
 | .q o=>o.er
 | .bxm t x=>.bxm t x.er
 | .alm t z=>.alm t z.cells
 | .st m t a x=>stK m a.er (U.sz t) x.er
 | .mks tid e z x=>.mks tid (U.sz e) (U.C e z) x.er
 | .app tid e s x=>.app tid (U.sz e) s.er x.er
 | .clr e z x=>.clr (U.sz e) (U.C e z) x.er
 | .apv tid e s x=>.apv tid (U.sz e) s.er x.er
 | .bsr tid e=>.bsr tid (U.sz e)
 | .mkc tid e x=>.mkc tid (U.sz e) x.er
 | .apz tid e z s x=>.apz tid (U.sz e) (U.C e z) s.er x.er
 | .mkm w _ _=>.mkm w
 | .mup w m k v=>.mup w m.er k.er v.er
mutual
def sbN(r:Nat)(y:N U):N U->N U
 | .row q=>bif Nat.beq q r then y else .row q
 | .rptr q e i j p=>bif Nat.beq q r then .u else .rptr q e i j p
 | .ag t fs=>.ag t (sbNs r y fs)
 | .tup vs=>.tup (sbNs r y vs)
 | .fn f a b=>.fn f (sbNs r y a) (sbNs r y b)
 | .v t x=>.v t x
 | .tl e l=>.tl e l
 | .ns e=>.ns e
 | .ptr q j p=>.ptr q j p
 | .ip n j p=>.ip n j p
 | .nilp=>.nilp
 | .nilf=>.nilf
 | .nili=>.nili
 | .u=>.u
 | .ub=>.ub
 | .rv q e lo n=>bif Nat.beq q r then .u else .rv q e lo n
def sbNs(r:Nat)(y:N U):List (N U)->List (N U)
 | []=>[]
 | n::l=>sbN r y n::sbNs r y l
end
def sbTN(r:Nat)(y:N U):List (Nat×N U)->List (Nat×N U)
 | []=>[]
 | (k,v)::l=>(k,sbN r y v)::sbTN r y l
def sbHB(r:Nat)(y:N U):HB U->HB U
 | .box t n=>.box t (sbN r y n)
 | .ro t n=>.ro t n
 | .gone=>.gone
 | .pin q=>bif Nat.beq q r then .gone else .pin q
 | .row t e l=>.row t e l
 | .map q kt vt l=>.map q kt vt l
mutual
def menN(r:Nat):N U->Bool
 | .row q=>Nat.beq q r
 | .rptr q _ _ _ _=>Nat.beq q r
 | .ag _ fs=>menNs r fs
 | .tup vs=>menNs r vs
 | .fn _ a b=>menNs r a || menNs r b
 | .v _ _=>false
 | .tl _ _=>false
 | .ns _=>false
 | .ptr _ _ _=>false
 | .ip _ _ _=>false
 | .nilp=>false
 | .nilf=>false
 | .nili=>false
 | .u=>false
 | .ub=>false
 | .rv q _ _ _=>Nat.beq q r
def menNs(r:Nat):List (N U)->Bool
 | []=>false
 | n::l=>menN r n || menNs r l
end
def roMen(r:Nat):List (HB U)->Bool
 | []=>false
 | .ro _ n::l=>menN r n || roMen r l
 | _::l=>roMen r l
def sbHN(r:Nat)(y:N U):List (HB U)->List (HB U)
 | []=>[]
 | x::l=>sbHB r y x::sbHN r y l
def cpF(i d:Nat)(E E':List (Nat×Fct)):List (Nat×Fct):=
 let E1:=bif hasF E i Fct.isBnd then(d,.bnd)::E' else E'
 bif hasF E i Fct.isPos then(d,.pos)::E1 else E1
def addF(o:Q U)(d:Option Nat)(s s':St U):St U:=match d with
 | none=>s'
 | some d=>match o with
  | .mv (.t i)=>bif Nat.beq i d then s' else⟨s'.T,s'.H,cpF i d s.E ((d,.eq i)::s'.E)⟩
  | .bi .lss (.t i) y=>bif Nat.beq i d then s' else match y with
   | .t j=>bif Nat.beq j d then s' else match intN (lkN s.T i),intN (lkN s.T j)with
    | some _,some _=>⟨s'.T,s'.H,(d,.lt i j)::s'.E⟩
    | _,_=>s'
   | .c y=>match intN (lkN s.T i),intN y with
    | some _,some (_,k,m)=>bif decide (m<=k.max)then⟨s'.T,s'.H,(d,.ltc i)::s'.E⟩else s'
    | _,_=>s'
  | .bi .gtr (.t i) (.c y)=>bif Nat.beq i d then s' else match intN (lkN s.T i),intN y with
   | some _,some (_,_,m)=>bif decide (0<=m)then⟨s'.T,s'.H,(d,.gt i)::s'.E⟩else s'
   | _,_=>s'
  | _=>s'
def avK(o:A U)(d:Option Nat)(s:St U)(k:St U->Option R):Option R:=match o with
 | .q o=>qv o s fun v=>k (addF o d s (s.put d v))
 | .bxm tid x=>bif boxN (s.ev x)then k (St.put ⟨s.T,s.H++[.box tid (s.ev x)],s.E⟩ d (.ptr s.H.length 0 []))else none
 | .alm tid z=>k (St.put ⟨s.T,s.H++[.box tid z],s.E⟩ d (.ptr s.H.length 0 []))
 | .st m t a x=>bif boxN (s.ev x) && Nat.beq (s.ev x).sz (U.sz t)then match s.ev a with
   | .ptr r j p=>match m with
    | n+2=>none
    | _=>match s.H[r]? with
    | some (.box tid n)=>bif Nat.beq (offN n p) j then match setN (s.ev x) n p with
     | some n'=>k ⟨s.T,s.H.set r (.box tid n'),s.E⟩
     | none=>none
     else none
    | _=>none
   | .rptr r e i j p=>match m with
    | 1=>none
    | _=>match s.H[r]? with
    | some (.row tid e' l)=>bif Nat.beq (U.sz e) (U.sz e')then match p with
     | []=>bif Nat.beq j 0 && Nat.beq (s.ev x).sz (U.sz e')then match exT e' (s.ev x)with
      | some y=>if i<l.length then k ⟨s.T,s.H.set r (.row tid e' (l.set i y)),s.E⟩else none
      | none=>none
      else none
     | _::_=>Option.bind (l[i]?) fun a=>bif Nat.beq (offN (.v e' a) p) j then match setN (s.ev x) (.v e' a) p with
      | some n'=>match exT e' n' with
       | some y=>k ⟨s.T,s.H.set r (.row tid e' (l.set i y)),s.E⟩
       | none=>none
      | none=>none
      else none
     else none
    | _=>none
   | _=>none
   else none
 | .mks tid e z x=>match intN (s.ev x)with
  | some (_,_,n)=>if 0<=n/\n.toNat<=LIM then k (St.put ⟨s.T,s.H++[.row tid e (List.replicate n.toNat z)],s.E⟩ d (.row s.H.length))else none
  | none=>none
 | .bsr tid e=>k (St.put ⟨s.T,s.H++[.row tid e []],s.E⟩ d (.row s.H.length))
 | .mkm q kt vt=>k (St.put ⟨s.T,s.H++[.map q kt vt []],s.E⟩ d (.row s.H.length))
 | .mup q m k' v=>match s.ev m with
  | .row r=>match s.H[r]? with
   | some (.map q' kt vt l)=>match exT kt (s.ev k')with
    | some key=>match exT vt (s.ev v)with
     | some val=>bif qEq q q' && keyN q kt key then(if l.length<LIM then k (St.put ⟨s.T,s.H.set r (.map q kt vt (mput (keyE U kt) key val l)),s.E⟩ d (.tup []))else none)else none
     | none=>none
    | none=>none
   | _=>none
  | _=>none
 | .apz tid e z a x=>match s.ev a,intN (s.ev x)with
  | .ns _,some (_,_,n)=>if 0<n/\n.toNat<=LIM then k (St.put ⟨s.T,s.H++[.row tid e (List.replicate n.toNat z)],s.E⟩ d (.row s.H.length))else none
  | _,_=>none
 | .mkc tid e x=>match intN (s.ev x)with
  | some (_,_,n)=>if 0<=n/\n.toNat<=LIM then k (St.put ⟨s.T,s.H++[.row tid e []],s.E⟩ d (.row s.H.length))else none
  | none=>none
 | .clr e z x=>match s.ev x with
  | .rv r e0 lo n=>match s.H[r]? with
   | some (.row tid e' l)=>bif Nat.beq (U.sz e) (U.sz e') && Nat.beq (U.sz e0) (U.sz e')then match cast e' e z with
    | some z'=>if lo+n<=l.length then k (St.put ⟨s.T,s.H.set r (.row tid e' (l.take lo++List.replicate n z'++l.drop (lo+n))),s.E⟩ d (.tup []))else none
    | none=>none
    else none
   | _=>none
  | _=>none
 | .apv tid e a x=>match s.ev a,s.ev x with
  | .rv r e1 lo i,.rv q e2 j m=>match s.H[r]? with
   | some (.row tid' e' l)=>bif Nat.beq lo 0 && Nat.beq r q && Nat.beq tid tid' && Nat.beq (U.sz e) (U.sz e') && Nat.beq (U.sz e1) (U.sz e') && Nat.beq (U.sz e2) (U.sz e')then
    if i+m<=l.length/\j+m<=l.length then k (St.put ⟨s.T,s.H.set r (.row tid e' (l.take i++(l.drop j).take m++l.drop (i+m))),s.E⟩ d (.rv r e 0 (i+m)))else none
    else none
   | _=>none
  | _,_=>none
 | .app tid e a x=>match lstN (s.ev x)with
  | some (_,⟨e2,l2⟩)=>bif Nat.beq (U.sz e2) (U.sz e)then match s.ev a with
   | .ns _=>if l2.length<=LIM then k (St.put ⟨s.T,s.H++[.row tid e2 l2],s.E⟩ d (.row s.H.length))else none
   | .tl e1 l1=>match castL (e:=e1) l2 with
    | some l2=>bif Nat.beq (U.sz e1) (U.sz e)then(if l1.length+l2.length<=LIM then match l2 with
     | []=>none
     | _::_=>k (St.put ⟨s.T,s.H++[.row tid e1 (l1++l2)],s.E⟩ d (.row s.H.length))else none)else none
    | none=>none
   | .row r=>match s.H[r]? with
    | some (.row tid' e1 l1)=>bif Nat.beq tid tid' && Nat.beq (U.sz e1) (U.sz e) && !roMen r s.H then match castL (e:=e1) l2 with
     | some l2=>if l1.length+l2.length<=LIM then k (St.put ⟨sbTN r .u s.T,(sbHN r .u s.H).set r (.row tid e1 (l1++l2)),s.E⟩ d (.row r))else none
     | none=>none
     else none
    | _=>none
   | _=>none
   else none
  | none=>none
theorem intN_sb(r:Nat){y:N U}(hy:intN y=none/\boolN y=none)(n:N U):intN (sbN r y n)=intN n/\boolN (sbN r y n)=boolN n:=by
 cases n with
 | row q=>simp only[sbN];cases Nat.beq q r<;>first|exact⟨rfl,rfl⟩|exact hy
 | rptr q e i j p=>simp only[sbN];cases Nat.beq q r<;>exact⟨rfl,rfl⟩
 | rv q e lo m=>simp only[sbN];cases Nat.beq q r<;>exact⟨rfl,rfl⟩
 | _=>exact⟨rfl,rfl⟩
theorem lkN_sb(r n:Nat){y:N U}(T:List (Nat×N U)):lkN (sbTN r y T) n=sbN r y (lkN T n):=by
 induction T with
 | nil=>rfl
 | cons p T ih=>obtain⟨k,v⟩:=p;simp only[sbTN,lkN,ih];cases Nat.beq n k<;>rfl
theorem FOk_T{T T':List (Nat×N U)}{H H':List (HB U)}{E:List (Nat×Fct)}(h:∀ n,intN (lkN T' n)=intN (lkN T n)/\boolN (lkN T' n)=boolN (lkN T n))(h2:∀ n m,lkN T n=lkN T m->lkN T' n=lkN T' m)(hE:FOk ⟨T,H,E⟩):FOk ⟨T',H',E⟩:=by
 intro d f hf
 have:=hE d f hf
 cases f<;>simp only[Fct.ok,(h _).1,(h _).2]at this ⊢<;>first|exact this|exact h2 _ _ this
theorem clr_mem{k d:Nat}{f:Fct}{E:List (Nat×Fct)}(h:(d,f)∈clr k E):(d,f)∈E/\d≠k/\f.men k=false:=by
 induction E with
 | nil=>cases h
 | cons x E ih =>
  obtain⟨d',f'⟩:=x
  simp only[clr]at h
  cases hc:(Nat.beq d' k || f'.men k)<;>rw[hc]at h
  ·simp only[cond_false,List.mem_cons]at h
   rcases h with h|h
   ·cases h
    simp only[Bool.or_eq_false_iff]at hc
    exact⟨by simp,fun e=>by subst e;simp at hc,hc.2⟩
   ·obtain⟨h1,h2⟩:=ih h
    exact⟨by simp[h1],h2⟩
  ·obtain⟨h1,h2⟩:=ih h
   exact⟨by simp[h1],h2⟩
theorem lkN_ne{k n:Nat}{v:N U}{T:List (Nat×N U)}(h:n≠k):lkN ((k,v)::T) n=lkN T n:=by
 simp only[lkN]
 cases hb:Nat.beq n k
 ·rfl
 ·exact absurd (Nat.eq_of_beq_eq_true hb) h
theorem lkN_eq{k:Nat}{v:N U}{T:List (Nat×N U)}:lkN ((k,v)::T) k=v:=by
 simp[lkN]
theorem men_ne{i k:Nat}(h:Nat.beq i k=false):i≠k:=fun e=>by subst e;simp at h
theorem FOk_cons{T:List (Nat×N U)}{H:List (HB U)}{E:List (Nat×Fct)}{k:Nat}{v:N U}(hE:FOk ⟨T,H,E⟩):FOk ⟨(k,v)::T,H,clr k E⟩:=by
 intro d f hf
 obtain⟨h1,h2,h3⟩:=clr_mem hf
 have:=hE d f h1
 cases f<;>simp only[Fct.ok,Fct.men,Bool.or_eq_false_iff]at this h3 ⊢
 ·rw[lkN_ne (men_ne h3.1),lkN_ne (men_ne h3.2),lkN_ne h2];exact this
 ·rw[lkN_ne (men_ne h3),lkN_ne h2];exact this
 ·rw[lkN_ne (men_ne h3),lkN_ne h2];exact this
 ·rw[lkN_ne h2];exact this
 ·rw[lkN_ne h2];exact this
 ·rw[lkN_ne (men_ne h3),lkN_ne h2];exact this
theorem FOk_put{s:St U}{d:Option Nat}{v:N U}(hE:FOk s):FOk (s.put d v):=by
 cases d with
 | none=>exact hE
 | some k=>exact FOk_cons hE
theorem FOk_H{T:List (Nat×N U)}{H H':List (HB U)}{E:List (Nat×Fct)}(hE:FOk ⟨T,H,E⟩):FOk ⟨T,H',E⟩:=FOk_T (fun _=>⟨rfl,rfl⟩) (fun _ _ h=>h) hE
theorem FOk_add{s:St U}{d:Nat}{f:Fct}(hE:FOk s)(hf:f.ok s d):FOk ⟨s.T,s.H,(d,f)::s.E⟩:=by
 intro d' f' h
 rcases List.mem_cons.1 h with e|h
 ·cases e
  cases f<;>exact hf
 ·have:=hE d' f' h
  cases f'<;>exact this
theorem sv_quiet{st:AS}{d:Option Nat}{k:K}(h:quietK k=true):sv st d k=(ov st.ev st.H k).map (Ab.put st d):=by
 cases k<;>first|rfl|cases h
theorem Q.quiet(o:Q U):quietK o.er=true:=by cases o<;>rfl
section
variable (hU:U.Ok)
include hU
theorem boolN_bv(b:Bool):boolN (.v U.tb (U.bv b):N U)=some b:=by simp only[boolN,hU.vb]
theorem bi_lss{i:Nat}{y:Od U}{s:St U}{k:N U->Option R}{r:R}{t1 t2:U.T}{k1 k2:IntKind}{a b:Int}(h1:intN (lkN s.T i)=some (t1,k1,a))(h2:intN (s.ev y)=some (t2,k2,b))(h:qv (.bi .lss (.t i) y) s k=some r) :
  k1=k2/\k (.v U.tb (U.bv (decide (a<b))))=some r:=by
 have h1':intN (s.ev (.t i))=some (t1,k1,a):=h1
 simp only[qv]at h
 rw[h1',h2]at h
 simp only at h
 split at h
 ·rename_i e;exact⟨e,h⟩
 ·cases h
theorem bi_gtr{i:Nat}{y:Od U}{s:St U}{k:N U->Option R}{r:R}{t1 t2:U.T}{k1 k2:IntKind}{a b:Int}(h1:intN (lkN s.T i)=some (t1,k1,a))(h2:intN (s.ev y)=some (t2,k2,b))(h:qv (.bi .gtr (.t i) y) s k=some r) :
  k1=k2/\k (.v U.tb (U.bv (decide (b<a))))=some r:=by
 have h1':intN (s.ev (.t i))=some (t1,k1,a):=h1
 simp only[qv]at h
 rw[h1',h2]at h
 simp only at h
 split at h
 ·rename_i e;exact⟨e,h⟩
 ·cases h
mutual
theorem sb_id{r:Nat}{z:AV}:∀(x:AV),pureB x=true->sb r z x=x
 | .u,h=>by simp[pureB]at h
 | .i _ _,_=>rfl
 | .b _,_=>rfl
 | .s _,_=>rfl
 | .agg cs,h=>by simp only[sb];rw[sbL_id cs (by simpa [pureB] using h)]
 | .tup cs,h=>by simp only[sb];rw[sbL_id cs (by simpa [pureB] using h)]
 | .sl _ _ _,_=>rfl
 | .nils,_=>rfl
 | .row _,h=>by simp[pureB]at h
 | .ptr _ _,h=>by simp[pureB]at h
 | .rptr _ _ _ _,h=>by simp[pureB]at h
 | .ip _ _,_=>rfl
 | .nilp,_=>rfl
 | .fn f a b,h=>by
  simp only[pureB,Bool.and_eq_true]at h
  simp only[sb];rw[sbL_id a h.1,sbL_id b h.2]
 | .nilf,_=>rfl
 | .nili,_=>rfl
 | .ub,h=>by simp[pureB]at h
 | .rv _ _ _ _,h=>by simp[pureB]at h
 | .mv _ _,_=>rfl
theorem sbL_id{r:Nat}{z:AV}:∀(x:List AV),pureL x=true->sbL r z x=x
 | [],_=>rfl
 | c::cs,h=>by
  simp only[pureL,Bool.and_eq_true]at h
  simp only[sbL];rw[sb_id c h.1,sbL_id cs h.2]
end
theorem cellsOf_sb{r:Nat}{y:AV}(hy:cellsOf y=[y])(x:AV):cellsOf (sb r y x)=sbL r y (cellsOf x):=by
 cases x<;>simp only[sb,cellsOf,sbL]
 case row q=>cases q == r<;>first|rfl|exact hy
 case rptr q sz i j=>cases q == r<;>rfl
 case rv q sz i j=>cases q == r<;>rfl
theorem sbL_app{r:Nat}{y:AV}:∀(a b:List AV),sbL r y (a++b)=sbL r y a++sbL r y b
 | [],b=>rfl
 | x::a,b=>by simp[sbL,sbL_app a b]
theorem beq_nat(n k:Nat):(n == k)=Nat.beq n k:=by rw[Bool.eq_iff_iff];simp[Nat.beq_eq]
mutual
theorem abs_sb(r:Nat){y:N U}(hy:cellsOf y.abs=[y.abs]):∀(n:N U),(sbN r y n).abs=sb r y.abs n.abs
 | .v t x=>(sb_id hU _ (V_pure hU t x)).symm
 | .tl _ _=>rfl
 | .ns _=>rfl
 | .ag _ fs=>by simp only[sbN,N.abs,sb];rw[absC_sb r hy fs]
 | .tup vs=>by simp only[sbN,N.abs,sb];rw[absL_sb r hy vs]
 | .row q=>by simp only[sbN,N.abs,sb,beq_nat hU];cases Nat.beq q r<;>rfl
 | .ptr _ _ _=>rfl
 | .rptr q e i j p=>by simp only[sbN,N.abs,sb,beq_nat hU];cases Nat.beq q r<;>rfl
 | .ip _ _ _=>rfl
 | .fn _ a b=>by simp only[sbN,N.abs,sb];rw[absL_sb r hy a,absL_sb r hy b]
 | .nilp=>rfl
 | .nilf=>rfl
 | .nili=>rfl
 | .u=>rfl
 | .ub=>rfl
 | .rv q e lo n=>by simp only[sbN,N.abs,sb,beq_nat hU];cases Nat.beq q r<;>rfl
theorem absL_sb(r:Nat){y:N U}(hy:cellsOf y.abs=[y.abs]):∀(l:List (N U)),absL (sbNs r y l)=sbL r y.abs (absL l)
 | []=>rfl
 | n::l=>by simp only[sbNs,absL,sbL];rw[abs_sb r hy n,absL_sb r hy l]
theorem absC_sb(r:Nat){y:N U}(hy:cellsOf y.abs=[y.abs]):∀(l:List (N U)),absC (sbNs r y l)=sbL r y.abs (absC l)
 | []=>rfl
 | n::l=>by simp only[sbNs,absC,sbL_app hU];rw[abs_sb r hy n,absC_sb r hy l,cellsOf_sb hU hy]
end
theorem absT_sb(r:Nat){y:N U}(hy:cellsOf y.abs=[y.abs]):∀(T:List (Nat×N U)),absT (sbTN r y T)=sbT r y.abs (absT T)
 | []=>rfl
 | (k,v)::T=>by simp only[sbTN,absT,sbT];rw[abs_sb hU r hy,absT_sb r hy T]
theorem sbE_C(r:Nat){y:AV}(e:U.T)(l:List (U.I e)):sbE r y (l.map (U.C e))=l.map (U.C e):=by
 induction l with
 | nil=>rfl
 | cons x l ih=>simp only[List.map_cons,sbE,ih,sbL_id hU _ (hU.pure e x)]
mutual
theorem sb_men{r:Nat}{y:N U}:∀(n:N U),menN r n=false->sbN r y n=n
 | .row q,h=>by simp only[menN]at h;simp only[sbN,h,cond_false]
 | .rptr q _ _ _ _,h=>by simp only[menN]at h;simp only[sbN,h,cond_false]
 | .ag _ fs,h=>by simp only[menN]at h;simp only[sbN,sb_mens fs h]
 | .tup vs,h=>by simp only[menN]at h;simp only[sbN,sb_mens vs h]
 | .fn _ a b,h=>by simp only[menN,Bool.or_eq_false_iff]at h;simp only[sbN,sb_mens a h.1,sb_mens b h.2]
 | .v _ _,_=>rfl
 | .tl _ _,_=>rfl
 | .ns _,_=>rfl
 | .ptr _ _ _,_=>rfl
 | .ip _ _ _,_=>rfl
 | .nilp,_=>rfl
 | .nilf,_=>rfl
 | .nili,_=>rfl
 | .u,_=>rfl
 | .ub,_=>rfl
 | .rv q _ _ _,h=>by simp only[menN]at h;simp only[sbN,h,cond_false]
theorem sb_mens{r:Nat}{y:N U}:∀(l:List (N U)),menNs r l=false->sbNs r y l=l
 | [],_=>rfl
 | n::l,h=>by simp only[menNs,Bool.or_eq_false_iff]at h;simp only[sbNs,sb_men n h.1,sb_mens l h.2]
end
theorem absB_sb(r:Nat)(b:Value){y:N U}(hy:cellsOf y.abs=[y.abs])(x:HB U)(hm:roMen r [x]=false):absB b (sbHB r y x)=sbB r y.abs (absB b x):=by
 cases x with
 | ro t n =>
  simp only[roMen,Bool.or_false]at hm
  simp only[sbHB,absB,sbB,N.cells]
  rw[<-cellsOf_sb hU hy,<-abs_sb hU r hy,sb_men hU n hm]
 | gone=>rfl
 | pin q =>
  simp only[sbHB,absB,sbB]
  rw[show(q == r)=Nat.beq q r by rw[Bool.eq_iff_iff];simp[Nat.beq_eq]]
  cases Nat.beq q r<;>rfl
 | box t n=>simp only[sbHB,absB,sbB,N.cells,abs_sb hU r hy,cellsOf_sb hU hy]
 | row t e l=>simp only[sbHB,absB,sbB,sbE_C hU]
 | map _ _ _ _=>rfl
theorem roMen_cons{r:Nat}{x:HB U}{H:List (HB U)}(h:roMen r (x::H)=false):roMen r [x]=false/\roMen r H=false:=by
 cases x<;>simp_all [roMen]
theorem absH_sb(β:Nat->Value)(r:Nat){y:N U}(hy:cellsOf y.abs=[y.abs]):∀(H:List (HB U)) (k:Nat),roMen r H=false->absH β k (sbHN r y H)=sbH r y.abs (absH β k H)
 | [],k,_=>rfl
 | x::H,k,h=>by simp only[sbHN,absH,sbH];rw[absB_sb hU _ _ hy _ (roMen_cons hU h).1,absH_sb β r hy H _ (roMen_cons hU h).2]
theorem push_box(β:Nat->Value){s:St U}{d:Option Nat}{hb:HB U}(n:N U):absS β (St.put ⟨s.T,s.H++[hb],s.E⟩ d n)=Ab.put { absS β s with H:=(absS β s).H++[absB (β s.H.length) hb] } d n.abs:=by
 rw[put_abs]
 simp only[absS,absH_app,absH,Nat.zero_add]
theorem avK_ok(β:Nat->Value){o:A U}{d:Option Nat}{s:St U}{k:St U->Option R}{r:R}(hE:FOk s)(h:avK o d s k=some r) :
  ∃ s',k s'=some r/\FOk s'/\sv (absS β s) d o.er=some (absS β s'):=by
 have hlen:(absS β s).H.length=s.H.length:=absH_len β s.H 0
 cases o with
 | q o =>
  simp only[avK]at h
  have gen:(∀ n,addF o d s (s.put d n)=s.put d n)->∃ s',k s'=some r/\FOk s'/\sv (absS β s) d o.er=some (absS β s'):=by
   intro hn
   obtain⟨n,h1,h2⟩:=qv_ok hU β hE h
   rw[hn]at h1
   exact⟨_,h1,FOk_put hE,by rw[sv_quiet o.quiet,h2,put_abs];rfl⟩
  have spec:∀(b:Bool) (f:Fct),(k ⟨(s.put d (.v U.tb (U.bv b))).T,(s.put d (.v U.tb (U.bv b))).H,((d.getD 0),f)::(s.put d (.v U.tb (U.bv b))).E⟩=some r)->f.ok (s.put d (.v U.tb (U.bv b))) (d.getD 0)->ov (absS β s).ev (absS β s).H o.er=some (.b b) ->
    ∃ s',k s'=some r/\FOk s'/\sv (absS β s) d o.er=some (absS β s'):=by
   intro b f h1 h2 h3
   refine⟨_,h1,FOk_add (FOk_put hE) h2,?_⟩
   rw[sv_quiet o.quiet,h3,<-abs_tb hU b]
   exact congrArg some (put_abs β s d _).symm
  cases d with
  | none=>exact gen fun n=>rfl
  | some d =>
  cases o with
  | mv x =>
   cases x with
   | c x=>exact gen fun n=>rfl
   | t i =>
    cases hid:Nat.beq i d with
    | true=>exact gen fun n=>by simp only[addF,hid,cond_true]
    | false =>
    have h:k (addF (.mv (.t i)) (some d) s (s.put (some d) (lkN s.T i)))=some r:=h
    simp only[addF,hid,cond_false]at h
    have nid:=men_ne hid
    have hi:lkN ((d,lkN s.T i)::s.T) i=lkN s.T i:=lkN_ne nid
    have hd:lkN ((d,lkN s.T i)::s.T) d=lkN s.T i:=lkN_eq
    have base:FOk (⟨(s.put (some d) (lkN s.T i)).T,(s.put (some d) (lkN s.T i)).H,(d,.eq i)::(s.put (some d) (lkN s.T i)).E⟩:St U):=FOk_add (FOk_put hE) (by simp only[Fct.ok,St.put];rw[hi,hd])
    refine⟨_,h,?_,?_⟩
    ·unfold cpF
     simp only
     have b1:FOk (⟨(s.put (some d) (lkN s.T i)).T,(s.put (some d) (lkN s.T i)).H,bif hasF s.E i Fct.isBnd then(d,.bnd)::(d,.eq i)::(s.put (some d) (lkN s.T i)).E else(d,.eq i)::(s.put (some d) (lkN s.T i)).E⟩:St U):=by
      cases hb:hasF s.E i Fct.isBnd
      ·exact base
      ·obtain⟨t,kk,a,w1,w2⟩:=bnd_of hE hb
       exact FOk_add base ⟨t,kk,a,by simp only[St.put];rw[hd];exact w1,w2⟩
     cases hb:hasF s.E i Fct.isPos
     ·exact b1
     ·obtain⟨t,kk,a,w1,w2⟩:=pos_of hE hb
      exact FOk_add b1 ⟨t,kk,a,by simp only[St.put];rw[hd];exact w1,w2⟩
    ·show((some ((absS β s).ev (Opd.t i))).map (Ab.put (absS β s) (some d)))=_
     rw[show(absS β s).ev (Opd.t i)=(lkN s.T i).abs from lk_abs _ _]
     exact congrArg some (put_abs β s (some d) _).symm
  | bi op x y =>
   cases op<;>(try (refine gen fun n=>?_;(cases x<;>rfl);done))
   case lss =>
    cases x with
    | c x=>exact gen fun n=>rfl
    | t i =>
    cases hid:Nat.beq i d with
    | true=>exact gen fun n=>by simp only[addF,hid,cond_true]
    | false =>
    cases h1:intN (lkN s.T i)with
    | none =>
     refine gen fun n=>?_
     cases y with
     | t j =>
      simp only[addF,hid,cond_false,h1]
      cases Nat.beq j d<;>rfl
     | c y=>simp only[addF,hid,cond_false,h1]
    | some p1 =>
    obtain⟨t1,k1,a⟩:=p1
    cases h2:intN (s.ev y)with
    | none =>
     refine gen fun n=>?_
     cases y with
     | t j =>
      simp only[St.ev]at h2
      simp only[addF,hid,cond_false,h1,h2]
      cases Nat.beq j d<;>rfl
     | c y =>
      simp only[St.ev]at h2
      simp only[addF,hid,cond_false,h1,h2]
    | some p2 =>
    obtain⟨t2,k2,b⟩:=p2
    obtain⟨rfl,h3⟩:=bi_lss hU h1 h2 h
    have hov:ov (absS β s).ev (absS β s).H (Q.bi .lss (.t i) y).er=some (.b (decide (a<b))):=by
     have e1:(absS β s).ev (Opd.t i)=.i k1 a:=by rw[show(Opd.t i)=(Od.t i:Od U).er from rfl,ev_abs];exact intN_ok hU h1
     have e2:(absS β s).ev y.er=.i k1 b:=by rw[ev_abs];exact intN_ok hU h2
     show ov _ _ (.bi _ (.t i) _)=_
     simp only[ov,e1,e2,if_true,biI]
    have nid:=men_ne hid
    cases y with
    | t j =>
     simp only[St.ev]at h2
     cases hjd:Nat.beq j d with
     | true=>exact gen fun n=>by simp only[addF,hid,hjd,cond_true,cond_false]
     | false =>
     have njd:=men_ne hjd
     simp only[addF,hid,hjd,cond_false,h1,h2]at h3
     refine spec (decide (a<b)) (.lt i j) h3 ?_ hov
     exact⟨t1,k1,a,t2,b,by simp only[St.put];rw[lkN_ne nid];exact h1,by simp only[St.put];rw[lkN_ne njd];exact h2,by simp only[St.put,Option.getD_some];rw[lkN_eq];exact boolN_bv hU _⟩
    | c y =>
     simp only[St.ev]at h2
     cases hm:decide (b<=k1.max)with
     | false=>exact gen fun n=>by simp only[addF,hid,cond_false,h1,h2,hm]
     | true =>
     simp only[addF,hid,cond_false,h1,h2,hm,cond_true]at h3
     refine spec (decide (a<b)) (.ltc i) h3 ?_ hov
     exact⟨t1,k1,a,b,by simp only[St.put];rw[lkN_ne nid];exact h1,by simp only[St.put,Option.getD_some];rw[lkN_eq];exact boolN_bv hU _,of_decide_eq_true hm⟩
   case gtr =>
    cases x with
    | c x=>exact gen fun n=>rfl
    | t i =>
    cases y with
    | t j=>exact gen fun n=>rfl
    | c y =>
    cases hid:Nat.beq i d with
    | true=>exact gen fun n=>by simp only[addF,hid,cond_true]
    | false =>
    cases h1:intN (lkN s.T i)with
    | none=>exact gen fun n=>by simp only[addF,hid,cond_false,h1]
    | some p1 =>
    obtain⟨t1,k1,a⟩:=p1
    cases h2:intN y with
    | none=>exact gen fun n=>by simp only[addF,hid,cond_false,h1,h2]
    | some p2 =>
    obtain⟨t2,k2,b⟩:=p2
    obtain⟨rfl,h3⟩:=bi_gtr hU h1 (show intN (s.ev (.c y))=_ from h2) h
    have hov:ov (absS β s).ev (absS β s).H (Q.bi .gtr (.t i) (.c y)).er=some (.b (decide (b<a))):=by
     have e1:(absS β s).ev (Opd.t i)=.i k1 a:=by rw[show(Opd.t i)=(Od.t i:Od U).er from rfl,ev_abs];exact intN_ok hU h1
     have e2:(absS β s).ev (Od.c y).er=.i k1 b:=intN_ok hU h2
     show ov _ _ (.bi _ (.t i) _)=_
     simp only[ov,e1,e2,if_true,biI]
    have nid:=men_ne hid
    cases hm:decide (0<=b)with
    | false=>exact gen fun n=>by simp only[addF,hid,cond_false,h1,h2,hm]
    | true =>
    simp only[addF,hid,cond_false,h1,h2,hm,cond_true]at h3
    refine spec (decide (b<a)) (.gt i) h3 ?_ hov
    exact⟨t1,k1,a,b,by simp only[St.put];rw[lkN_ne nid];exact h1,by simp only[St.put,Option.getD_some];rw[lkN_eq];exact boolN_bv hU _,of_decide_eq_true hm⟩
  | _=>exact gen fun n=>rfl
 | bxm tid x =>
  simp only[avK]at h
  cases hb:boxN (s.ev x)<;>rw[hb]at h
  ·cases h
  ·refine⟨_,h,FOk_put (FOk_H hE),?_⟩
   rw[push_box hU]
   simp only[A.er,sv,ev_abs,boxN_ok hU hb,cond_true,hlen]
   rfl
 | alm tid z =>
  simp only[avK]at h
  refine⟨_,h,FOk_put (FOk_H hE),?_⟩
  rw[push_box hU]
  simp only[A.er,sv,hlen]
  rfl
 | st m t a x =>
  simp only[avK]at h
  cases hc:(boxN (s.ev x) && Nat.beq (s.ev x).sz (U.sz t))<;>rw[hc]at h
  ·cases h
  ·simp only[Bool.and_eq_true]at hc
   have c2:=Nat.eq_of_beq_eq_true hc.2
   have hl:(cellsOf (s.ev x).abs).length=(s.ev x).sz:=sz_cells hU _
   have pre:((cellsOf ((absS β s).ev x.er)).length == U.sz t && boxB ((absS β s).ev x.er))=true:=by
    rw[ev_abs,hl,c2,boxN_ok hU hc.1];simp
   simp only[cond_true]at h
   have hx:(s.ev x).cells.length=(s.ev x).sz:=hl
   have main:∃ s',k s'=some r/\FOk s'/\stS (absS β s) a.er (U.sz t) x.er=some (absS β s')/\((m=1->∃ r j,(absS β s).ev a.er=.ptr r j)/\(m≠0->m≠1->∃ r sz i j,(absS β s).ev a.er=.rptr r sz i j)):=by
    unfold stS
    simp only[pre,cond_true]
    split at h
    ·rename_i q j p ha
     split at h
     ·cases h
     ·rename_i hm2
      split at h
      ·rename_i tid n hr
       cases ho:Nat.beq (offN n p) j<;>rw[ho]at h
       ·cases h
       ·have ho:=Nat.eq_of_beq_eq_true ho
        simp only[cond_true]at h
        split at h
        ·rename_i n' hs
         obtain⟨a',o,b,k1,k2,k3,k4,k5⟩:=set_cells hU hs
         refine⟨_,h,FOk_H hE,?_,?_⟩
         ·rw[ev_abs,ha]
          simp only[N.abs,H_box hU β hr]
          rw[if_pos (by rw[k1,List.length_append,List.length_append,k3];omega)]
          have e1:wrCells n.cells j (cellsOf (s.ev x).abs)=n'.cells:=by
           unfold wrCells
           rw[k4,hl,<-k3,k1,<-ho,<-k2,List.take_left,<-List.drop_drop,List.drop_left,List.drop_left,List.append_assoc];rfl
          rw[ev_abs,e1]
          simp only[absS,absH_set,Nat.zero_add,absB]
         ·refine⟨fun _=>⟨q,j,by rw[ev_abs,ha];rfl⟩,fun h0 h1=>?_⟩
          exact(hm2 (m-2) (by omega)).elim
        ·cases h
      ·cases h
    ·rename_i q e i j p ha
     split at h
     ·cases h
     ·rename_i hm1
      split at h
      ·rename_i tid e' l hr
       cases hsz:Nat.beq (U.sz e) (U.sz e')<;>rw[hsz]at h
       ·cases h
       ·have hsz:=Nat.eq_of_beq_eq_true hsz
        simp only[cond_true]at h
        have shape:(m=1->∃ r j,(absS β s).ev a.er=.ptr r j)/\(m≠0->m≠1->∃ r sz i j,(absS β s).ev a.er=.rptr r sz i j):=
         ⟨fun e=>absurd e hm1,fun _ _=>⟨q,U.sz e,i,j,by rw[ev_abs,ha];rfl⟩⟩
        split at h
        ·cases hj:(Nat.beq j 0 && Nat.beq (s.ev x).sz (U.sz e'))<;>rw[hj]at h
         ·cases h
         ·simp only[Bool.and_eq_true]at hj
          obtain rfl:=Nat.eq_of_beq_eq_true hj.1
          have hj2:=Nat.eq_of_beq_eq_true hj.2
          simp only[cond_true]at h
          split at h
          ·rename_i y hy
           split at h
           ·rename_i hi
            refine⟨_,h,FOk_H hE,?_,shape⟩
            rw[ev_abs,ha]
            simp only[N.abs,H_row hU β hr,hsz,BEq.rfl,cond_true,List.getElem?_map,List.getElem?_eq_getElem hi,Option.map_some]
            have hcl:(U.C e' l[i]).length=U.sz e':=hU.len _ _
            rw[if_pos (by rw[hcl];omega)]
            have e1:wrCells (U.C e' l[i]) 0 (cellsOf ((absS β s).ev x.er))=U.C e' y:=by
             rw[ev_abs,show cellsOf (s.ev x).abs=(s.ev x).cells from rfl]
             unfold wrCells
             rw[hx,hj2,<-hcl,Nat.zero_add,List.drop_length,List.take_zero,List.nil_append,List.append_nil]
             exact exT_cells hU hy
            rw[e1]
            simp only[absS,absH_set,Nat.zero_add,absB,List.map_set]
           ·cases h
          ·cases h
        ·obtain⟨y0,hy0,h⟩:=bind_some' hU h
         cases ho:Nat.beq (offN (.v e' y0:N U) _) j<;>rw[ho]at h
         ·cases h
         ·have ho:=Nat.eq_of_beq_eq_true ho
          simp only[cond_true]at h
          split at h
          ·rename_i n' hs
           split at h
           ·rename_i y hy
            obtain⟨a',o,b,k1,k2,k3,k4,k5⟩:=set_cells hU hs
            rw[cells_v hU]at k1
            refine⟨_,h,FOk_H hE,?_,shape⟩
            rw[ev_abs,ha]
            simp only[N.abs,H_row hU β hr,hsz,BEq.rfl,cond_true,List.getElem?_map,hy0,Option.map_some]
            rw[if_pos (by rw[k1,List.length_append,List.length_append,k3];omega)]
            have e1:wrCells (U.C e' y0) j (cellsOf ((absS β s).ev x.er))=U.C e' y:=by
             rw[ev_abs,<-exT_cells hU hy]
             unfold wrCells
             rw[k4,hl,<-k3,k1,<-ho,<-k2,List.take_left,<-List.drop_drop,List.drop_left,List.drop_left,List.append_assoc];rfl
            rw[e1]
            simp only[absS,absH_set,Nat.zero_add,absB,List.map_set]
           ·cases h
          ·cases h
      ·cases h
    ·cases h
   obtain⟨s',h1,h2,h3,h4,h5⟩:=main
   refine⟨s',h1,h2,?_⟩
   simp only[A.er,stK]
   split
   ·rw[sv_st];exact h3
   ·obtain⟨q,j,h4⟩:=h4 rfl
    rw[of_stb h4,sv_st];exact h3
   ·rename_i n0 n1
    obtain⟨q,z,i,j,h5⟩:=h5 n0 n1
    rw[of_ste h5,sv_st];exact h3
 | mks tid e z x =>
  simp only[avK]at h
  split at h
  ·rename_i t1 k1 n hn
   split at h
   ·rename_i hc
    refine⟨_,h,FOk_put (FOk_H hE),?_⟩
    rw[push_box hU]
    simp only[A.er,sv,ev_abs,intN_ok hU hn,if_pos hc,hlen,absB,List.map_replicate]
    rfl
   ·cases h
  ·cases h
 | mkm q kt vt =>
  simp only[avK]at h
  refine⟨_,h,FOk_put (FOk_H hE),?_⟩
  rw[push_box hU]
  simp only[A.er,sv,hlen,absB]
  rfl
 | mup q m k' v =>
  simp only[avK]at h
  split at h
  ·rename_i q0 hm
   split at h
   ·rename_i q' kt vt l hr
    split at h
    ·rename_i key hkey
     split at h
     ·rename_i val hval
      cases hc:(qEq q q' && keyN q kt key)<;>rw[hc]at h
      ·cases h
      simp only[Bool.and_eq_true]at hc
      have hqq:=qEq_ok hc.1
      subst hqq
      simp only[cond_true]at h
      split at h
      ·rename_i hl
       refine⟨_,h,FOk_put (FOk_H hE),?_⟩
       have e1:(absS β s).H[q0]? = some (.map q (entM kt vt l)):=by simp only[absS,absH_get,hr];rfl
       have e2:(entM kt vt l).length=l.length:=by simp[entM]
       simp only[A.er,sv,ev_abs,hm,N.abs,e1,exT_ok hU kt _ hkey,exT_ok hU vt _ hval,beq_self_eq_true,keyN_ok hU hc.2,V_pure hU,V_box hU,Bool.and_self,cond_true,e2,if_pos hl,mput_ok hU]
       rw[put_abs]
       simp only[absS,absH_set,Nat.zero_add,absB,N.abs,absL]
      ·cases h
     ·cases h
    ·cases h
   ·cases h
  ·cases h
 | apz tid e z a x =>
  simp only[avK]at h
  split at h
  ·rename_i e0 t1 k1 n ha hn
   split at h
   ·rename_i hc
    refine⟨_,h,FOk_put (FOk_H hE),?_⟩
    rw[push_box hU]
    simp only[A.er,sv,ev_abs,ha,N.abs,intN_ok hU hn,if_pos hc,hlen,absB,List.map_replicate]
   ·cases h
  ·cases h
 | mkc tid e x =>
  simp only[avK]at h
  split at h
  ·rename_i t1 k1 n hn
   split at h
   ·rename_i hc
    refine⟨_,h,FOk_put (FOk_H hE),?_⟩
    rw[push_box hU]
    simp only[A.er,sv,ev_abs,intN_ok hU hn,if_pos hc,hlen,absB]
    rfl
   ·cases h
  ·cases h
 | app tid e a x =>
  simp only[avK]at h
  split at h
  ·rename_i f e2 l2 hl2
   cases hs2:Nat.beq (U.sz e2) (U.sz e)<;>rw[hs2]at h
   ·cases h
   ·have hs2:=Nat.eq_of_beq_eq_true hs2
    simp only[cond_true]at h
    simp only[A.er,sv,ev_abs,lstN_ok hU hl2,List.length_map,hlen]
    split at h
    ·rename_i e0 ha
     split at h
     ·rename_i hc
      refine⟨_,h,FOk_put (FOk_H hE),?_⟩
      rw[push_box hU,ha]
      simp only[N.abs]
      rw[if_pos ⟨hc,Or.inr hs2⟩]
      simp only[absB,hs2]
     ·cases h
    ·rename_i e1 l1 ha
     split at h
     ·rename_i l2' hcast
      have hcast:=castL_ok hU hcast
      cases hcast
      cases hs1:Nat.beq (U.sz e2) (U.sz e)<;>rw[hs1]at h
      ·cases h
      ·simp only[cond_true]at h
       split at h
       ·rename_i hc
        split at h
        ·cases h
        ·rename_i y ys
         refine⟨_,h,FOk_put (FOk_H hE),?_⟩
         rw[push_box hU,ha]
         simp only[N.abs,List.length_map]
         rw[if_pos ⟨hc,by simp,hs2,Or.inr hs2⟩]
         simp only[absB,List.map_append,hs2]
       ·cases h
     ·cases h
    ·rename_i q ha
     split at h
     ·rename_i tid' e1 l1 hr
      cases hcc:(Nat.beq tid tid' && Nat.beq (U.sz e1) (U.sz e) && !roMen q s.H)<;>rw[hcc]at h
      ·cases h
      ·simp only[Bool.and_eq_true,Bool.not_eq_true']at hcc
       have hro:=hcc.2
       have htid:tid=tid':=Nat.eq_of_beq_eq_true hcc.1.1
       subst htid
       simp only[cond_true]at h
       split at h
       ·rename_i l2' hcast
        have hcast:=castL_ok hU hcast
        cases hcast
        split at h
        ·rename_i hc
         refine⟨_,h,?_,?_⟩
         ·refine FOk_put (FOk_T (fun n=>?_) (fun n m h=>by rw[lkN_sb,lkN_sb,h]) hE)
          rw[lkN_sb];exact intN_sb q ⟨rfl,rfl⟩ _
         ·rw[ha,put_abs]
          simp only[N.abs,H_row hU β hr,List.length_map]
          rw[if_pos ⟨hc,trivial,hs2,Or.inr hs2⟩]
          simp only[absS,absT_sb hU q (y:=.u) rfl,absH_set,absH_sb hU β q (y:=.u) rfl s.H 0 hro,Nat.zero_add,absB,List.map_append,sbE_C hU,hs2]
          rfl
        ·cases h
       ·cases h
     ·cases h
    ·cases h
  ·cases h
 | bsr tid e =>
  simp only[avK]at h
  refine⟨_,h,FOk_put (FOk_H hE),?_⟩
  rw[push_box hU]
  simp only[A.er,sv,hlen]
  rfl
 | clr e z x =>
  simp only[avK]at h
  simp only[A.er,sv,ev_abs]
  split at h
  ·rename_i q e0 lo n hx
   split at h
   ·rename_i tid e' l hr
    cases hc:(Nat.beq (U.sz e) (U.sz e') && Nat.beq (U.sz e0) (U.sz e'))<;>rw[hc]at h
    ·cases h
    ·simp only[Bool.and_eq_true]at hc
     have c1:=Nat.eq_of_beq_eq_true hc.1
     have c2:=Nat.eq_of_beq_eq_true hc.2
     simp only[cond_true]at h
     split at h
     ·rename_i z' hz
      have hz:=cast_ok hz
      cases hz
      split at h
      ·rename_i hle
       refine⟨_,h,FOk_put (FOk_H hE),?_⟩
       rw[hx,put_abs]
       simp only[N.abs,H_row hU β hr,List.length_map]
       rw[if_pos ⟨hle,trivial,c2⟩]
       simp only[absS,absH_set,Nat.zero_add,absB,List.map_append,List.map_take,List.map_drop,List.map_replicate,N.abs,absL]
      ·cases h
     ·cases h
   ·cases h
  ·cases h
 | apv tid e a x =>
  simp only[avK]at h
  simp only[A.er,sv,ev_abs]
  split at h
  ·rename_i q e1 lo i q2 e2 j m ha hx
   split at h
   ·rename_i tid' e' l hr
    cases hc:(Nat.beq lo 0 && Nat.beq q q2 && Nat.beq tid tid' && Nat.beq (U.sz e) (U.sz e') && Nat.beq (U.sz e1) (U.sz e') && Nat.beq (U.sz e2) (U.sz e'))<;>rw[hc]at h
    ·cases h
    ·simp only[Bool.and_eq_true]at hc
     obtain⟨⟨⟨⟨⟨c0,c1⟩,c2⟩,c3⟩,c4⟩,c5⟩:=hc
     obtain rfl:=Nat.eq_of_beq_eq_true c0
     obtain rfl:=Nat.eq_of_beq_eq_true c1
     obtain rfl:tid=tid':=Nat.eq_of_beq_eq_true c2
     have c3:=Nat.eq_of_beq_eq_true c3
     have c4:=Nat.eq_of_beq_eq_true c4
     have c5:=Nat.eq_of_beq_eq_true c5
     simp only[cond_true]at h
     split at h
     ·rename_i hle
      refine⟨_,h,FOk_put (FOk_H hE),?_⟩
      rw[ha,hx,put_abs]
      simp only[N.abs,H_row hU β hr,List.length_map]
      rw[if_pos ⟨trivial,hle.1,hle.2,trivial,c3,c4,c5⟩]
      simp only[absS,absH_set,Nat.zero_add,absB,List.map_append,List.map_take,List.map_drop,N.abs]
     ·cases h
   ·cases h
  ·cases h
end
end
end Go.Ab.X
