/- A part of the proof: UC. -/
import Derived.Test.YtlebiodkgkeomaaGreatX5
import Derived.KernelRfl
set_option linter.all false
set_option linter.all false
set_option maxRecDepth 100000
set_option maxHeartbeats 4000000
namespace Go.Ab.X
open Go.RowKit Go.Ab
theorem pureL_app:∀(a b:List AV),pureL (a++b)=(pureL a && pureL b)
 | [],b=>by simp[pureL]
 | x::a,b=>by simp[pureL,pureL_app a b,Bool.and_assoc]
theorem pureE_mapC{α:Type}{C:α->List AV}(h:∀ x,pureL (C x)=true)(l:List α):pureE (List.map C l)=true:=by
 induction l with
 | nil=>rfl
 | cons x l ih=>simp[pureE,h,ih]
inductive GT where
 | bool|int|u8|str|nat|ty|lty|tm|ltm|sequent|typeop|ltypeop|const|lconst|signature|lsequent|decl|node|pnode|theory|lint|fnc|ltheory|typebind|ltypebind|psequent|thm|lthm|lltm|u64|engine
 deriving DecidableEq
structure Ssequent where
 hyps:(List Tm)
 concl:Tm
structure Stypeop where
 name:ByteArray
 arity:Int
structure Sconst where
 name:ByteArray
 type:Ty
structure Ssignature where
 types:(List Stypeop)
 consts:(List Sconst)
structure Sdecl where
 kind:Int
 name:ByteArray
 arity:Int
 typ:Ty
 seqs:(List Ssequent)
inductive Nnode where
 | mk (decl:Sdecl) (parent:Option Nnode) (n:Int) (sig:Ssignature)
def Nnode.decl:Nnode->Sdecl
 | .mk y0 y1 y2 y3=>y0
def Nnode.parent:Nnode->Option Nnode
 | .mk y0 y1 y2 y3=>y1
def Nnode.n:Nnode->Int
 | .mk y0 y1 y2 y3=>y2
def Nnode.sig:Nnode->Ssignature
 | .mk y0 y1 y2 y3=>y3
structure Stheory where
 node:(Option Nnode)
structure Stypebind where
 var:ByteArray
 type:Ty
structure Sthm where
 node:(Option Nnode)
 seq:(Option Ssequent)
structure Sengine where
 theory:Stheory
def gI:GT->Type
 | .bool=>Bool
 | .int=>Int
 | .u8=>Int
 | .str=>ByteArray
 | .nat=>Nat
 | .ty=>Ty
 | .lty=>(List Ty)
 | .tm=>Tm
 | .ltm=>(List Tm)
 | .sequent=>Ssequent
 | .typeop=>Stypeop
 | .ltypeop=>(List Stypeop)
 | .const=>Sconst
 | .lconst=>(List Sconst)
 | .signature=>Ssignature
 | .lsequent=>(List Ssequent)
 | .decl=>Sdecl
 | .node=>Nnode
 | .pnode=>(Option Nnode)
 | .theory=>Stheory
 | .lint=>(List Int)
 | .fnc=>Empty
 | .ltheory=>(List Stheory)
 | .typebind=>Stypebind
 | .ltypebind=>(List Stypebind)
 | .psequent=>(Option Ssequent)
 | .thm=>Sthm
 | .lthm=>(List Sthm)
 | .lltm=>(List (List Tm))
 | .u64=>Int
 | .engine=>Sengine
def gsz:GT->Nat
 | .bool=>1
 | .int=>1
 | .u8=>1
 | .str=>1
 | .nat=>1
 | .ty=>3
 | .lty=>1
 | .tm=>7
 | .ltm=>1
 | .sequent=>8
 | .typeop=>2
 | .ltypeop=>1
 | .const=>4
 | .lconst=>1
 | .signature=>2
 | .lsequent=>1
 | .decl=>7
 | .node=>11
 | .pnode=>1
 | .theory=>1
 | .lint=>1
 | .fnc=>1
 | .ltheory=>1
 | .typebind=>4
 | .ltypebind=>1
 | .psequent=>1
 | .thm=>2
 | .lthm=>1
 | .lltm=>1
 | .u64=>1
 | .engine=>1
def gst:GT->Bool
 | .bool=>false
 | .int=>false
 | .u8=>false
 | .str=>false
 | .nat=>false
 | .ty=>true
 | .lty=>false
 | .tm=>true
 | .ltm=>false
 | .sequent=>true
 | .typeop=>true
 | .ltypeop=>false
 | .const=>true
 | .lconst=>false
 | .signature=>true
 | .lsequent=>false
 | .decl=>true
 | .node=>true
 | .pnode=>false
 | .theory=>true
 | .lint=>false
 | .fnc=>false
 | .ltheory=>false
 | .typebind=>true
 | .ltypebind=>false
 | .psequent=>false
 | .thm=>true
 | .lthm=>false
 | .lltm=>false
 | .u64=>false
 | .engine=>true
def gel:GT->GT
 | .bool=>.bool
 | .int=>.int
 | .u8=>.u8
 | .str=>.str
 | .nat=>.nat
 | .ty=>.ty
 | .lty=>.ty
 | .tm=>.tm
 | .ltm=>.tm
 | .sequent=>.sequent
 | .typeop=>.typeop
 | .ltypeop=>.typeop
 | .const=>.const
 | .lconst=>.const
 | .signature=>.signature
 | .lsequent=>.sequent
 | .decl=>.decl
 | .node=>.node
 | .pnode=>.node
 | .theory=>.theory
 | .lint=>.int
 | .fnc=>.fnc
 | .ltheory=>.theory
 | .typebind=>.typebind
 | .ltypebind=>.typebind
 | .psequent=>.sequent
 | .thm=>.thm
 | .lthm=>.thm
 | .lltm=>.ltm
 | .u64=>.u64
 | .engine=>.engine
def gfts:GT->List GT
 | .bool=>[]
 | .int=>[]
 | .u8=>[]
 | .str=>[]
 | .nat=>[]
 | .ty=>[.bool,.str,.lty]
 | .lty=>[]
 | .tm=>[.u8,.str,.ty,.int,.ltm]
 | .ltm=>[]
 | .sequent=>[.ltm,.tm]
 | .typeop=>[.str,.int]
 | .ltypeop=>[]
 | .const=>[.str,.ty]
 | .lconst=>[]
 | .signature=>[.ltypeop,.lconst]
 | .lsequent=>[]
 | .decl=>[.u8,.str,.int,.ty,.lsequent]
 | .node=>[.decl,.pnode,.int,.signature]
 | .pnode=>[]
 | .theory=>[.pnode]
 | .lint=>[]
 | .fnc=>[]
 | .ltheory=>[]
 | .typebind=>[.str,.ty]
 | .ltypebind=>[]
 | .psequent=>[]
 | .thm=>[.pnode,.psequent]
 | .lthm=>[]
 | .lltm=>[]
 | .u64=>[]
 | .engine=>[.theory]
def C_bool(x:Bool):List AV:=[.b x]
def C_int(x:Int):List AV:=[.i .i64 x]
def C_u8(x:Int):List AV:=[.i .u8 x]
def C_str(x:ByteArray):List AV:=[.s x]
def C_nat(x:Nat):List AV:=[.i .u64 (Int.ofNat x)]
def C_ty(x:Ty):List AV:=tyC x
def C_lty(x:(List Ty)):List AV:=[.sl false 3 (List.map C_ty x)]
def C_tm(x:Tm):List AV:=tmC x
def C_ltm(x:(List Tm)):List AV:=[.sl false 7 (List.map C_tm x)]
def C_sequent(x:Ssequent):List AV:=C_ltm x.hyps++(C_tm x.concl++[])
def C_typeop(x:Stypeop):List AV:=C_str x.name++(C_int x.arity++[])
def C_ltypeop(x:(List Stypeop)):List AV:=[.sl false 2 (List.map C_typeop x)]
def C_const(x:Sconst):List AV:=C_str x.name++(C_ty x.type++[])
def C_lconst(x:(List Sconst)):List AV:=[.sl false 4 (List.map C_const x)]
def C_signature(x:Ssignature):List AV:=C_ltypeop x.types++(C_lconst x.consts++[])
def C_lsequent(x:(List Ssequent)):List AV:=[.sl false 8 (List.map C_sequent x)]
def C_decl(x:Sdecl):List AV:=C_u8 x.kind++(C_str x.name++(C_int x.arity++(C_ty x.typ++(C_lsequent x.seqs++[]))))
mutual
def nodeC:Nnode->List AV
 | .mk y0 y1 y2 y3=>C_decl y0++(onodeC y1++(C_int y2++(C_signature y3++[])))
def onodeC:Option Nnode->List AV
 | none=>[.nilp]
 | some y=>[.ip true (nodeC y)]
end
def C_node(x:Nnode):List AV:=nodeC x
def C_pnode(x:(Option Nnode)):List AV:=match x with
 | none=>[.nilp]
 | some y=>[.ip true (C_node y)]
def C_theory(x:Stheory):List AV:=C_pnode x.node++[]
def C_lint(x:(List Int)):List AV:=[.sl false 1 (List.map C_int x)]
def C_fnc(x:Empty):List AV:=nomatch x
def C_ltheory(x:(List Stheory)):List AV:=[.sl false 1 (List.map C_theory x)]
def C_typebind(x:Stypebind):List AV:=C_str x.var++(C_ty x.type++[])
def C_ltypebind(x:(List Stypebind)):List AV:=[.sl false 4 (List.map C_typebind x)]
def C_psequent(x:(Option Ssequent)):List AV:=match x with
 | none=>[.nilp]
 | some y=>[.ip true (C_sequent y)]
def C_thm(x:Sthm):List AV:=C_pnode x.node++(C_psequent x.seq++[])
def C_lthm(x:(List Sthm)):List AV:=[.sl false 2 (List.map C_thm x)]
def C_lltm(x:(List (List Tm))):List AV:=[.sl false 1 (List.map C_ltm x)]
def C_u64(x:Int):List AV:=[.i .u64 x]
def C_engine(x:Sengine):List AV:=C_theory x.theory++[]
def gvw:(t:GT)->gI t->View GT gI
 | .bool,x=>.bool x
 | .int,x=>.int .i64 x
 | .u8,x=>.int .u8 x
 | .str,x=>.str x
 | .nat,x=>.int .u64 (Int.ofNat x)
 | .ty,x=>.fds [⟨.bool,x.v⟩,⟨.str,x.n⟩,⟨.lty,x.a⟩]
 | .lty,x=>.lst .ty x
 | .tm,x=>.fds [⟨.u8,x.k⟩,⟨.str,x.n⟩,⟨.ty,x.y⟩,⟨.int,x.i⟩,⟨.ltm,x.s⟩]
 | .ltm,x=>.lst .tm x
 | .sequent,x=>.fds [⟨.ltm,x.hyps⟩,⟨.tm,x.concl⟩]
 | .typeop,x=>.fds [⟨.str,x.name⟩,⟨.int,x.arity⟩]
 | .ltypeop,x=>.lst .typeop x
 | .const,x=>.fds [⟨.str,x.name⟩,⟨.ty,x.type⟩]
 | .lconst,x=>.lst .const x
 | .signature,x=>.fds [⟨.ltypeop,x.types⟩,⟨.lconst,x.consts⟩]
 | .lsequent,x=>.lst .sequent x
 | .decl,x=>.fds [⟨.u8,x.kind⟩,⟨.str,x.name⟩,⟨.int,x.arity⟩,⟨.ty,x.typ⟩,⟨.lsequent,x.seqs⟩]
 | .node,x=>.fds [⟨.decl,x.decl⟩,⟨.pnode,x.parent⟩,⟨.int,x.n⟩,⟨.signature,x.sig⟩]
 | .pnode,x=>.opt .node x
 | .theory,x=>.fds [⟨.pnode,x.node⟩]
 | .lint,x=>.lst .int x
 | .fnc,x=>nomatch x
 | .ltheory,x=>.lst .theory x
 | .typebind,x=>.fds [⟨.str,x.var⟩,⟨.ty,x.type⟩]
 | .ltypebind,x=>.lst .typebind x
 | .psequent,x=>.opt .sequent x
 | .thm,x=>.fds [⟨.pnode,x.node⟩,⟨.psequent,x.seq⟩]
 | .lthm,x=>.lst .thm x
 | .lltm,x=>.lst .ltm x
 | .u64,x=>.int .u64 x
 | .engine,x=>.fds [⟨.theory,x.theory⟩]
def inj_bool(v:View GT gI):Option Bool:=match v with
 | .bool x=>some x
 | _=>none
theorem inj_bool_ok(v:View GT gI)(x:Bool)(h:inj_bool v=some x):gvw .bool x=v:=by
 unfold inj_bool at h;split at h
 ·cases h;rfl
 ·cases h
def inj_int(v:View GT gI):Option Int:=match v with
 | .int .i64 x=>some x
 | _=>none
theorem inj_int_ok(v:View GT gI)(x:Int)(h:inj_int v=some x):gvw .int x=v:=by
 unfold inj_int at h;split at h
 ·cases h;rfl
 ·cases h
def inj_u8(v:View GT gI):Option Int:=match v with
 | .int .u8 x=>some x
 | _=>none
theorem inj_u8_ok(v:View GT gI)(x:Int)(h:inj_u8 v=some x):gvw .u8 x=v:=by
 unfold inj_u8 at h;split at h
 ·cases h;rfl
 ·cases h
def inj_str(v:View GT gI):Option ByteArray:=match v with
 | .str x=>some x
 | _=>none
theorem inj_str_ok(v:View GT gI)(x:ByteArray)(h:inj_str v=some x):gvw .str x=v:=by
 unfold inj_str at h;split at h
 ·cases h;rfl
 ·cases h
def inj_nat(v:View GT gI):Option Nat:=match v with
 | .int .u64 z=>if 0<=z then some z.toNat else none
 | _=>none
theorem inj_nat_ok(v:View GT gI)(x:Nat)(h:inj_nat v=some x):gvw .nat x=v:=by
 unfold inj_nat at h;split at h
 ·split at h
  ·cases h;rename_i h;exact congrArg (View.int .u64) (Int.toNat_of_nonneg h)
  ·cases h
 ·cases h
def inj_ty(v:View GT gI):Option Ty:=match v with
 | .fds [⟨.bool,y0⟩,⟨.str,y1⟩,⟨.lty,y2⟩]=>some (Ty.mk y0 y1 y2)
 | _=>none
theorem inj_ty_ok(v:View GT gI)(x:Ty)(h:inj_ty v=some x):gvw .ty x=v:=by
 unfold inj_ty at h;split at h
 ·cases h;rfl
 ·cases h
def inj_lty(v:View GT gI):Option (List Ty):=match v with
 | .lst .ty x=>some x
 | _=>none
theorem inj_lty_ok(v:View GT gI)(x:(List Ty))(h:inj_lty v=some x):gvw .lty x=v:=by
 unfold inj_lty at h;split at h
 ·cases h;rfl
 ·cases h
def inj_tm(v:View GT gI):Option Tm:=match v with
 | .fds [⟨.u8,y0⟩,⟨.str,y1⟩,⟨.ty,y2⟩,⟨.int,y3⟩,⟨.ltm,y4⟩]=>some (Tm.mk y0 y1 y2 y3 y4)
 | _=>none
theorem inj_tm_ok(v:View GT gI)(x:Tm)(h:inj_tm v=some x):gvw .tm x=v:=by
 unfold inj_tm at h;split at h
 ·cases h;rfl
 ·cases h
def inj_ltm(v:View GT gI):Option (List Tm):=match v with
 | .lst .tm x=>some x
 | _=>none
theorem inj_ltm_ok(v:View GT gI)(x:(List Tm))(h:inj_ltm v=some x):gvw .ltm x=v:=by
 unfold inj_ltm at h;split at h
 ·cases h;rfl
 ·cases h
def inj_sequent(v:View GT gI):Option Ssequent:=match v with
 | .fds [⟨.ltm,y0⟩,⟨.tm,y1⟩]=>some (Ssequent.mk y0 y1)
 | _=>none
theorem inj_sequent_ok(v:View GT gI)(x:Ssequent)(h:inj_sequent v=some x):gvw .sequent x=v:=by
 unfold inj_sequent at h;split at h
 ·cases h;rfl
 ·cases h
def inj_typeop(v:View GT gI):Option Stypeop:=match v with
 | .fds [⟨.str,y0⟩,⟨.int,y1⟩]=>some (Stypeop.mk y0 y1)
 | _=>none
theorem inj_typeop_ok(v:View GT gI)(x:Stypeop)(h:inj_typeop v=some x):gvw .typeop x=v:=by
 unfold inj_typeop at h;split at h
 ·cases h;rfl
 ·cases h
def inj_ltypeop(v:View GT gI):Option (List Stypeop):=match v with
 | .lst .typeop x=>some x
 | _=>none
theorem inj_ltypeop_ok(v:View GT gI)(x:(List Stypeop))(h:inj_ltypeop v=some x):gvw .ltypeop x=v:=by
 unfold inj_ltypeop at h;split at h
 ·cases h;rfl
 ·cases h
def inj_const(v:View GT gI):Option Sconst:=match v with
 | .fds [⟨.str,y0⟩,⟨.ty,y1⟩]=>some (Sconst.mk y0 y1)
 | _=>none
theorem inj_const_ok(v:View GT gI)(x:Sconst)(h:inj_const v=some x):gvw .const x=v:=by
 unfold inj_const at h;split at h
 ·cases h;rfl
 ·cases h
def inj_lconst(v:View GT gI):Option (List Sconst):=match v with
 | .lst .const x=>some x
 | _=>none
theorem inj_lconst_ok(v:View GT gI)(x:(List Sconst))(h:inj_lconst v=some x):gvw .lconst x=v:=by
 unfold inj_lconst at h;split at h
 ·cases h;rfl
 ·cases h
def inj_signature(v:View GT gI):Option Ssignature:=match v with
 | .fds [⟨.ltypeop,y0⟩,⟨.lconst,y1⟩]=>some (Ssignature.mk y0 y1)
 | _=>none
theorem inj_signature_ok(v:View GT gI)(x:Ssignature)(h:inj_signature v=some x):gvw .signature x=v:=by
 unfold inj_signature at h;split at h
 ·cases h;rfl
 ·cases h
def inj_lsequent(v:View GT gI):Option (List Ssequent):=match v with
 | .lst .sequent x=>some x
 | _=>none
theorem inj_lsequent_ok(v:View GT gI)(x:(List Ssequent))(h:inj_lsequent v=some x):gvw .lsequent x=v:=by
 unfold inj_lsequent at h;split at h
 ·cases h;rfl
 ·cases h
def inj_decl(v:View GT gI):Option Sdecl:=match v with
 | .fds [⟨.u8,y0⟩,⟨.str,y1⟩,⟨.int,y2⟩,⟨.ty,y3⟩,⟨.lsequent,y4⟩]=>some (Sdecl.mk y0 y1 y2 y3 y4)
 | _=>none
theorem inj_decl_ok(v:View GT gI)(x:Sdecl)(h:inj_decl v=some x):gvw .decl x=v:=by
 unfold inj_decl at h;split at h
 ·cases h;rfl
 ·cases h
def inj_node(v:View GT gI):Option Nnode:=match v with
 | .fds [⟨.decl,y0⟩,⟨.pnode,y1⟩,⟨.int,y2⟩,⟨.signature,y3⟩]=>some (Nnode.mk y0 y1 y2 y3)
 | _=>none
theorem inj_node_ok(v:View GT gI)(x:Nnode)(h:inj_node v=some x):gvw .node x=v:=by
 unfold inj_node at h;split at h
 ·cases h;rfl
 ·cases h
def inj_pnode(v:View GT gI):Option (Option Nnode):=match v with
 | .opt .node x=>some x
 | _=>none
theorem inj_pnode_ok(v:View GT gI)(x:(Option Nnode))(h:inj_pnode v=some x):gvw .pnode x=v:=by
 unfold inj_pnode at h;split at h
 ·cases h;rfl
 ·cases h
def inj_theory(v:View GT gI):Option Stheory:=match v with
 | .fds [⟨.pnode,y0⟩]=>some (Stheory.mk y0)
 | _=>none
theorem inj_theory_ok(v:View GT gI)(x:Stheory)(h:inj_theory v=some x):gvw .theory x=v:=by
 unfold inj_theory at h;split at h
 ·cases h;rfl
 ·cases h
def inj_lint(v:View GT gI):Option (List Int):=match v with
 | .lst .int x=>some x
 | _=>none
theorem inj_lint_ok(v:View GT gI)(x:(List Int))(h:inj_lint v=some x):gvw .lint x=v:=by
 unfold inj_lint at h;split at h
 ·cases h;rfl
 ·cases h
def inj_ltheory(v:View GT gI):Option (List Stheory):=match v with
 | .lst .theory x=>some x
 | _=>none
theorem inj_ltheory_ok(v:View GT gI)(x:(List Stheory))(h:inj_ltheory v=some x):gvw .ltheory x=v:=by
 unfold inj_ltheory at h;split at h
 ·cases h;rfl
 ·cases h
def inj_typebind(v:View GT gI):Option Stypebind:=match v with
 | .fds [⟨.str,y0⟩,⟨.ty,y1⟩]=>some (Stypebind.mk y0 y1)
 | _=>none
theorem inj_typebind_ok(v:View GT gI)(x:Stypebind)(h:inj_typebind v=some x):gvw .typebind x=v:=by
 unfold inj_typebind at h;split at h
 ·cases h;rfl
 ·cases h
def inj_ltypebind(v:View GT gI):Option (List Stypebind):=match v with
 | .lst .typebind x=>some x
 | _=>none
theorem inj_ltypebind_ok(v:View GT gI)(x:(List Stypebind))(h:inj_ltypebind v=some x):gvw .ltypebind x=v:=by
 unfold inj_ltypebind at h;split at h
 ·cases h;rfl
 ·cases h
def inj_psequent(v:View GT gI):Option (Option Ssequent):=match v with
 | .opt .sequent x=>some x
 | _=>none
theorem inj_psequent_ok(v:View GT gI)(x:(Option Ssequent))(h:inj_psequent v=some x):gvw .psequent x=v:=by
 unfold inj_psequent at h;split at h
 ·cases h;rfl
 ·cases h
def inj_thm(v:View GT gI):Option Sthm:=match v with
 | .fds [⟨.pnode,y0⟩,⟨.psequent,y1⟩]=>some (Sthm.mk y0 y1)
 | _=>none
theorem inj_thm_ok(v:View GT gI)(x:Sthm)(h:inj_thm v=some x):gvw .thm x=v:=by
 unfold inj_thm at h;split at h
 ·cases h;rfl
 ·cases h
def inj_lthm(v:View GT gI):Option (List Sthm):=match v with
 | .lst .thm x=>some x
 | _=>none
theorem inj_lthm_ok(v:View GT gI)(x:(List Sthm))(h:inj_lthm v=some x):gvw .lthm x=v:=by
 unfold inj_lthm at h;split at h
 ·cases h;rfl
 ·cases h
def inj_lltm(v:View GT gI):Option (List (List Tm)):=match v with
 | .lst .ltm x=>some x
 | _=>none
theorem inj_lltm_ok(v:View GT gI)(x:(List (List Tm)))(h:inj_lltm v=some x):gvw .lltm x=v:=by
 unfold inj_lltm at h;split at h
 ·cases h;rfl
 ·cases h
def inj_u64(v:View GT gI):Option Int:=match v with
 | .int .u64 x=>some x
 | _=>none
theorem inj_u64_ok(v:View GT gI)(x:Int)(h:inj_u64 v=some x):gvw .u64 x=v:=by
 unfold inj_u64 at h;split at h
 ·cases h;rfl
 ·cases h
def inj_engine(v:View GT gI):Option Sengine:=match v with
 | .fds [⟨.theory,y0⟩]=>some (Sengine.mk y0)
 | _=>none
theorem inj_engine_ok(v:View GT gI)(x:Sengine)(h:inj_engine v=some x):gvw .engine x=v:=by
 unfold inj_engine at h;split at h
 ·cases h;rfl
 ·cases h
def ginj:(t:GT)->View GT gI->Option (gI t)
 | .bool,v=>inj_bool v
 | .int,v=>inj_int v
 | .u8,v=>inj_u8 v
 | .str,v=>inj_str v
 | .nat,v=>inj_nat v
 | .ty,v=>inj_ty v
 | .lty,v=>inj_lty v
 | .tm,v=>inj_tm v
 | .ltm,v=>inj_ltm v
 | .sequent,v=>inj_sequent v
 | .typeop,v=>inj_typeop v
 | .ltypeop,v=>inj_ltypeop v
 | .const,v=>inj_const v
 | .lconst,v=>inj_lconst v
 | .signature,v=>inj_signature v
 | .lsequent,v=>inj_lsequent v
 | .decl,v=>inj_decl v
 | .node,v=>inj_node v
 | .pnode,v=>inj_pnode v
 | .theory,v=>inj_theory v
 | .lint,v=>inj_lint v
 | .fnc,v=>none
 | .ltheory,v=>inj_ltheory v
 | .typebind,v=>inj_typebind v
 | .ltypebind,v=>inj_ltypebind v
 | .psequent,v=>inj_psequent v
 | .thm,v=>inj_thm v
 | .lthm,v=>inj_lthm v
 | .lltm,v=>inj_lltm v
 | .u64,v=>inj_u64 v
 | .engine,v=>inj_engine v
def gC:(t:GT)->gI t->List AV
 | .bool,x=>C_bool x
 | .int,x=>C_int x
 | .u8,x=>C_u8 x
 | .str,x=>C_str x
 | .nat,x=>C_nat x
 | .ty,x=>C_ty x
 | .lty,x=>C_lty x
 | .tm,x=>C_tm x
 | .ltm,x=>C_ltm x
 | .sequent,x=>C_sequent x
 | .typeop,x=>C_typeop x
 | .ltypeop,x=>C_ltypeop x
 | .const,x=>C_const x
 | .lconst,x=>C_lconst x
 | .signature,x=>C_signature x
 | .lsequent,x=>C_lsequent x
 | .decl,x=>C_decl x
 | .node,x=>C_node x
 | .pnode,x=>C_pnode x
 | .theory,x=>C_theory x
 | .lint,x=>C_lint x
 | .fnc,x=>C_fnc x
 | .ltheory,x=>C_ltheory x
 | .typebind,x=>C_typebind x
 | .ltypebind,x=>C_ltypebind x
 | .psequent,x=>C_psequent x
 | .thm,x=>C_thm x
 | .lthm,x=>C_lthm x
 | .lltm,x=>C_lltm x
 | .u64,x=>C_u64 x
 | .engine,x=>C_engine x
def G:Uni:=⟨GT,gI,inferInstance,gsz,gst,gel,gfts,.bool,.int,.u8,.str,fun b=>b,fun n=>n,fun n=>n,fun s=>s,gvw,ginj,gC,.nat,fun n=>n,fun n=>n⟩
theorem len_bool(x:Bool):(C_bool x).length=1:=rfl
theorem pure_bool'(x:Bool):pureL (C_bool x)=true:=rfl
theorem cvw_bool(x:Bool):C_bool x=cellsV gC gsz (gvw .bool x):=rfl
theorem len_int(x:Int):(C_int x).length=1:=rfl
theorem pure_int'(x:Int):pureL (C_int x)=true:=rfl
theorem cvw_int(x:Int):C_int x=cellsV gC gsz (gvw .int x):=rfl
theorem len_u8(x:Int):(C_u8 x).length=1:=rfl
theorem pure_u8'(x:Int):pureL (C_u8 x)=true:=rfl
theorem cvw_u8(x:Int):C_u8 x=cellsV gC gsz (gvw .u8 x):=rfl
theorem len_str(x:ByteArray):(C_str x).length=1:=rfl
theorem pure_str'(x:ByteArray):pureL (C_str x)=true:=rfl
theorem cvw_str(x:ByteArray):C_str x=cellsV gC gsz (gvw .str x):=rfl
theorem len_nat(x:Nat):(C_nat x).length=1:=rfl
theorem pure_nat'(x:Nat):pureL (C_nat x)=true:=rfl
theorem cvw_nat(x:Nat):C_nat x=cellsV gC gsz (gvw .nat x):=rfl
theorem len_ty(x:Ty):(C_ty x).length=3:=by exact tyC_length x
theorem pure_ty'(x:Ty):pureL (C_ty x)=true:=pure_ty x
theorem cvw_ty(x:Ty):C_ty x=cellsV gC gsz (gvw .ty x):=by show tyC x=_;rw[tyC_eq,tysC_map];rfl
theorem len_lty(x:(List Ty)):(C_lty x).length=1:=rfl
theorem pure_lty'(x:(List Ty)):pureL (C_lty x)=true:=by simp only[C_lty,pureL,pureB,pureE_mapC pure_ty',Bool.and_self]
theorem cvw_lty(x:(List Ty)):C_lty x=cellsV gC gsz (gvw .lty x):=rfl
theorem len_tm(x:Tm):(C_tm x).length=7:=by exact tmC_length x
theorem pure_tm'(x:Tm):pureL (C_tm x)=true:=pure_tm x
theorem cvw_tm(x:Tm):C_tm x=cellsV gC gsz (gvw .tm x):=by show tmC x=_;rw[tmC_eq,tmsC_map,tyC_eq,tysC_map];show _=[AV.i .u8 x.k]++([AV.s x.n]++(tyC x.y++([AV.i .i64 x.i]++([AV.sl false 7 (List.map C_tm x.s)]++[]))));rw[tyC_eq,tysC_map];rfl
theorem len_ltm(x:(List Tm)):(C_ltm x).length=1:=rfl
theorem pure_ltm'(x:(List Tm)):pureL (C_ltm x)=true:=by simp only[C_ltm,pureL,pureB,pureE_mapC pure_tm',Bool.and_self]
theorem cvw_ltm(x:(List Tm)):C_ltm x=cellsV gC gsz (gvw .ltm x):=rfl
theorem len_sequent(x:Ssequent):(C_sequent x).length=8:=by simp only[C_sequent,List.length_append,List.length_nil,len_ltm,len_tm]
theorem pure_sequent'(x:Ssequent):pureL (C_sequent x)=true:=by simp only[C_sequent,pureL_app,pureL,Bool.and_self,pure_ltm',pure_tm']
theorem cvw_sequent(x:Ssequent):C_sequent x=cellsV gC gsz (gvw .sequent x):=rfl
theorem len_typeop(x:Stypeop):(C_typeop x).length=2:=by simp only[C_typeop,List.length_append,List.length_nil,len_int,len_str]
theorem pure_typeop'(x:Stypeop):pureL (C_typeop x)=true:=by simp only[C_typeop,pureL_app,pureL,Bool.and_self,pure_int',pure_str']
theorem cvw_typeop(x:Stypeop):C_typeop x=cellsV gC gsz (gvw .typeop x):=rfl
theorem len_ltypeop(x:(List Stypeop)):(C_ltypeop x).length=1:=rfl
theorem pure_ltypeop'(x:(List Stypeop)):pureL (C_ltypeop x)=true:=by simp only[C_ltypeop,pureL,pureB,pureE_mapC pure_typeop',Bool.and_self]
theorem cvw_ltypeop(x:(List Stypeop)):C_ltypeop x=cellsV gC gsz (gvw .ltypeop x):=rfl
theorem len_const(x:Sconst):(C_const x).length=4:=by simp only[C_const,List.length_append,List.length_nil,len_str,len_ty]
theorem pure_const'(x:Sconst):pureL (C_const x)=true:=by simp only[C_const,pureL_app,pureL,Bool.and_self,pure_str',pure_ty']
theorem cvw_const(x:Sconst):C_const x=cellsV gC gsz (gvw .const x):=rfl
theorem len_lconst(x:(List Sconst)):(C_lconst x).length=1:=rfl
theorem pure_lconst'(x:(List Sconst)):pureL (C_lconst x)=true:=by simp only[C_lconst,pureL,pureB,pureE_mapC pure_const',Bool.and_self]
theorem cvw_lconst(x:(List Sconst)):C_lconst x=cellsV gC gsz (gvw .lconst x):=rfl
theorem len_signature(x:Ssignature):(C_signature x).length=2:=by simp only[C_signature,List.length_append,List.length_nil,len_lconst,len_ltypeop]
theorem pure_signature'(x:Ssignature):pureL (C_signature x)=true:=by simp only[C_signature,pureL_app,pureL,Bool.and_self,pure_lconst',pure_ltypeop']
theorem cvw_signature(x:Ssignature):C_signature x=cellsV gC gsz (gvw .signature x):=rfl
theorem len_lsequent(x:(List Ssequent)):(C_lsequent x).length=1:=rfl
theorem pure_lsequent'(x:(List Ssequent)):pureL (C_lsequent x)=true:=by simp only[C_lsequent,pureL,pureB,pureE_mapC pure_sequent',Bool.and_self]
theorem cvw_lsequent(x:(List Ssequent)):C_lsequent x=cellsV gC gsz (gvw .lsequent x):=rfl
theorem len_decl(x:Sdecl):(C_decl x).length=7:=by simp only[C_decl,List.length_append,List.length_nil,len_int,len_lsequent,len_str,len_ty,len_u8]
theorem pure_decl'(x:Sdecl):pureL (C_decl x)=true:=by simp only[C_decl,pureL_app,pureL,Bool.and_self,pure_int',pure_lsequent',pure_str',pure_ty',pure_u8']
theorem cvw_decl(x:Sdecl):C_decl x=cellsV gC gsz (gvw .decl x):=rfl
mutual
theorem pure_node:∀ x:Nnode,pureL (nodeC x)=true
 | .mk y0 y1 y2 y3=>by simp only[nodeC,pureL_app,pureL,Bool.and_self,pure_onode,pure_decl',pure_int',pure_signature']
theorem pure_onode:∀ x:Option Nnode,pureL (onodeC x)=true
 | none=>rfl
 | some y=>by simp only[onodeC,pureL,pureB,pure_node y,Bool.and_self]
end
theorem len_node(x:Nnode):(C_node x).length=11:=by cases x with|mk y0 y1 y2 y3=>cases y1<;>(show List.length (nodeC _)=_;simp only[nodeC,onodeC,List.length_append,List.length_nil,List.length_cons,len_decl,len_int,len_signature])
theorem pure_node'(x:Nnode):pureL (C_node x)=true:=pure_node x
theorem cvw_node(x:Nnode):C_node x=cellsV gC gsz (gvw .node x):=by cases x with|mk y0 y1 y2 y3=>cases y1<;>rfl
theorem len_pnode(x:(Option Nnode)):(C_pnode x).length=1:=by cases x<;>rfl
theorem pure_pnode'(x:(Option Nnode)):pureL (C_pnode x)=true:=by cases x<;>simp[C_pnode,pureL,pureB,pure_node']
theorem cvw_pnode(x:(Option Nnode)):C_pnode x=cellsV gC gsz (gvw .pnode x):=by cases x<;>rfl
theorem len_theory(x:Stheory):(C_theory x).length=1:=by simp only[C_theory,List.length_append,List.length_nil,len_pnode]
theorem pure_theory'(x:Stheory):pureL (C_theory x)=true:=by simp only[C_theory,pureL_app,pureL,Bool.and_self,pure_pnode']
theorem cvw_theory(x:Stheory):C_theory x=cellsV gC gsz (gvw .theory x):=rfl
theorem len_lint(x:(List Int)):(C_lint x).length=1:=rfl
theorem pure_lint'(x:(List Int)):pureL (C_lint x)=true:=by simp only[C_lint,pureL,pureB,pureE_mapC pure_int',Bool.and_self]
theorem cvw_lint(x:(List Int)):C_lint x=cellsV gC gsz (gvw .lint x):=rfl
theorem len_ltheory(x:(List Stheory)):(C_ltheory x).length=1:=rfl
theorem pure_ltheory'(x:(List Stheory)):pureL (C_ltheory x)=true:=by simp only[C_ltheory,pureL,pureB,pureE_mapC pure_theory',Bool.and_self]
theorem cvw_ltheory(x:(List Stheory)):C_ltheory x=cellsV gC gsz (gvw .ltheory x):=rfl
theorem len_typebind(x:Stypebind):(C_typebind x).length=4:=by simp only[C_typebind,List.length_append,List.length_nil,len_str,len_ty]
theorem pure_typebind'(x:Stypebind):pureL (C_typebind x)=true:=by simp only[C_typebind,pureL_app,pureL,Bool.and_self,pure_str',pure_ty']
theorem cvw_typebind(x:Stypebind):C_typebind x=cellsV gC gsz (gvw .typebind x):=rfl
theorem len_ltypebind(x:(List Stypebind)):(C_ltypebind x).length=1:=rfl
theorem pure_ltypebind'(x:(List Stypebind)):pureL (C_ltypebind x)=true:=by simp only[C_ltypebind,pureL,pureB,pureE_mapC pure_typebind',Bool.and_self]
theorem cvw_ltypebind(x:(List Stypebind)):C_ltypebind x=cellsV gC gsz (gvw .ltypebind x):=rfl
theorem len_psequent(x:(Option Ssequent)):(C_psequent x).length=1:=by cases x<;>rfl
theorem pure_psequent'(x:(Option Ssequent)):pureL (C_psequent x)=true:=by cases x<;>simp[C_psequent,pureL,pureB,pure_sequent']
theorem cvw_psequent(x:(Option Ssequent)):C_psequent x=cellsV gC gsz (gvw .psequent x):=by cases x<;>rfl
theorem len_thm(x:Sthm):(C_thm x).length=2:=by simp only[C_thm,List.length_append,List.length_nil,len_pnode,len_psequent]
theorem pure_thm'(x:Sthm):pureL (C_thm x)=true:=by simp only[C_thm,pureL_app,pureL,Bool.and_self,pure_pnode',pure_psequent']
theorem cvw_thm(x:Sthm):C_thm x=cellsV gC gsz (gvw .thm x):=rfl
theorem len_lthm(x:(List Sthm)):(C_lthm x).length=1:=rfl
theorem pure_lthm'(x:(List Sthm)):pureL (C_lthm x)=true:=by simp only[C_lthm,pureL,pureB,pureE_mapC pure_thm',Bool.and_self]
theorem cvw_lthm(x:(List Sthm)):C_lthm x=cellsV gC gsz (gvw .lthm x):=rfl
theorem len_lltm(x:(List (List Tm))):(C_lltm x).length=1:=rfl
theorem pure_lltm'(x:(List (List Tm))):pureL (C_lltm x)=true:=by simp only[C_lltm,pureL,pureB,pureE_mapC pure_ltm',Bool.and_self]
theorem cvw_lltm(x:(List (List Tm))):C_lltm x=cellsV gC gsz (gvw .lltm x):=rfl
theorem len_u64(x:Int):(C_u64 x).length=1:=rfl
theorem pure_u64'(x:Int):pureL (C_u64 x)=true:=rfl
theorem cvw_u64(x:Int):C_u64 x=cellsV gC gsz (gvw .u64 x):=rfl
theorem len_engine(x:Sengine):(C_engine x).length=1:=by simp only[C_engine,List.length_append,List.length_nil,len_theory]
theorem pure_engine'(x:Sengine):pureL (C_engine x)=true:=by simp only[C_engine,pureL_app,pureL,Bool.and_self,pure_theory']
theorem cvw_engine(x:Sengine):C_engine x=cellsV gC gsz (gvw .engine x):=rfl
theorem G_cvw:∀(t:GT) (x:gI t),gC t x=cellsV gC gsz (gvw t x)
 | .bool,x=>cvw_bool x
 | .int,x=>cvw_int x
 | .u8,x=>cvw_u8 x
 | .str,x=>cvw_str x
 | .nat,x=>cvw_nat x
 | .ty,x=>cvw_ty x
 | .lty,x=>cvw_lty x
 | .tm,x=>cvw_tm x
 | .ltm,x=>cvw_ltm x
 | .sequent,x=>cvw_sequent x
 | .typeop,x=>cvw_typeop x
 | .ltypeop,x=>cvw_ltypeop x
 | .const,x=>cvw_const x
 | .lconst,x=>cvw_lconst x
 | .signature,x=>cvw_signature x
 | .lsequent,x=>cvw_lsequent x
 | .decl,x=>cvw_decl x
 | .node,x=>cvw_node x
 | .pnode,x=>cvw_pnode x
 | .theory,x=>cvw_theory x
 | .lint,x=>cvw_lint x
 | .fnc,x=>nomatch x
 | .ltheory,x=>cvw_ltheory x
 | .typebind,x=>cvw_typebind x
 | .ltypebind,x=>cvw_ltypebind x
 | .psequent,x=>cvw_psequent x
 | .thm,x=>cvw_thm x
 | .lthm,x=>cvw_lthm x
 | .lltm,x=>cvw_lltm x
 | .u64,x=>cvw_u64 x
 | .engine,x=>cvw_engine x
theorem G_len:∀(t:GT) (x:gI t),(gC t x).length=gsz t
 | .bool,x=>len_bool x
 | .int,x=>len_int x
 | .u8,x=>len_u8 x
 | .str,x=>len_str x
 | .nat,x=>len_nat x
 | .ty,x=>len_ty x
 | .lty,x=>len_lty x
 | .tm,x=>len_tm x
 | .ltm,x=>len_ltm x
 | .sequent,x=>len_sequent x
 | .typeop,x=>len_typeop x
 | .ltypeop,x=>len_ltypeop x
 | .const,x=>len_const x
 | .lconst,x=>len_lconst x
 | .signature,x=>len_signature x
 | .lsequent,x=>len_lsequent x
 | .decl,x=>len_decl x
 | .node,x=>len_node x
 | .pnode,x=>len_pnode x
 | .theory,x=>len_theory x
 | .lint,x=>len_lint x
 | .fnc,x=>nomatch x
 | .ltheory,x=>len_ltheory x
 | .typebind,x=>len_typebind x
 | .ltypebind,x=>len_ltypebind x
 | .psequent,x=>len_psequent x
 | .thm,x=>len_thm x
 | .lthm,x=>len_lthm x
 | .lltm,x=>len_lltm x
 | .u64,x=>len_u64 x
 | .engine,x=>len_engine x
theorem G_stv:∀(t:GT) (x:gI t),gst t=(gvw t x).isRec
 | .bool,x=>rfl
 | .int,x=>rfl
 | .u8,x=>rfl
 | .str,x=>rfl
 | .nat,x=>rfl
 | .ty,x=>rfl
 | .lty,x=>rfl
 | .tm,x=>rfl
 | .ltm,x=>rfl
 | .sequent,x=>rfl
 | .typeop,x=>rfl
 | .ltypeop,x=>rfl
 | .const,x=>rfl
 | .lconst,x=>rfl
 | .signature,x=>rfl
 | .lsequent,x=>rfl
 | .decl,x=>rfl
 | .node,x=>rfl
 | .pnode,x=>rfl
 | .theory,x=>rfl
 | .lint,x=>rfl
 | .fnc,x=>nomatch x
 | .ltheory,x=>rfl
 | .typebind,x=>rfl
 | .ltypebind,x=>rfl
 | .psequent,x=>rfl
 | .thm,x=>rfl
 | .lthm,x=>rfl
 | .lltm,x=>rfl
 | .u64,x=>rfl
 | .engine,x=>rfl
theorem G_pure:∀(t:GT) (x:gI t),pureL (gC t x)=true
 | .bool,x=>pure_bool' x
 | .int,x=>pure_int' x
 | .u8,x=>pure_u8' x
 | .str,x=>pure_str' x
 | .nat,x=>pure_nat' x
 | .ty,x=>pure_ty' x
 | .lty,x=>pure_lty' x
 | .tm,x=>pure_tm' x
 | .ltm,x=>pure_ltm' x
 | .sequent,x=>pure_sequent' x
 | .typeop,x=>pure_typeop' x
 | .ltypeop,x=>pure_ltypeop' x
 | .const,x=>pure_const' x
 | .lconst,x=>pure_lconst' x
 | .signature,x=>pure_signature' x
 | .lsequent,x=>pure_lsequent' x
 | .decl,x=>pure_decl' x
 | .node,x=>pure_node' x
 | .pnode,x=>pure_pnode' x
 | .theory,x=>pure_theory' x
 | .lint,x=>pure_lint' x
 | .fnc,x=>nomatch x
 | .ltheory,x=>pure_ltheory' x
 | .typebind,x=>pure_typebind' x
 | .ltypebind,x=>pure_ltypebind' x
 | .psequent,x=>pure_psequent' x
 | .thm,x=>pure_thm' x
 | .lthm,x=>pure_lthm' x
 | .lltm,x=>pure_lltm' x
 | .u64,x=>pure_u64' x
 | .engine,x=>pure_engine' x
theorem G_inj:∀(t:GT) (v:View GT gI) (x:gI t),ginj t v=some x->gvw t x=v
 | .bool,v,x,h=>inj_bool_ok v x h
 | .int,v,x,h=>inj_int_ok v x h
 | .u8,v,x,h=>inj_u8_ok v x h
 | .str,v,x,h=>inj_str_ok v x h
 | .nat,v,x,h=>inj_nat_ok v x h
 | .ty,v,x,h=>inj_ty_ok v x h
 | .lty,v,x,h=>inj_lty_ok v x h
 | .tm,v,x,h=>inj_tm_ok v x h
 | .ltm,v,x,h=>inj_ltm_ok v x h
 | .sequent,v,x,h=>inj_sequent_ok v x h
 | .typeop,v,x,h=>inj_typeop_ok v x h
 | .ltypeop,v,x,h=>inj_ltypeop_ok v x h
 | .const,v,x,h=>inj_const_ok v x h
 | .lconst,v,x,h=>inj_lconst_ok v x h
 | .signature,v,x,h=>inj_signature_ok v x h
 | .lsequent,v,x,h=>inj_lsequent_ok v x h
 | .decl,v,x,h=>inj_decl_ok v x h
 | .node,v,x,h=>inj_node_ok v x h
 | .pnode,v,x,h=>inj_pnode_ok v x h
 | .theory,v,x,h=>inj_theory_ok v x h
 | .lint,v,x,h=>inj_lint_ok v x h
 | .fnc,v,x,h=>nomatch x
 | .ltheory,v,x,h=>inj_ltheory_ok v x h
 | .typebind,v,x,h=>inj_typebind_ok v x h
 | .ltypebind,v,x,h=>inj_ltypebind_ok v x h
 | .psequent,v,x,h=>inj_psequent_ok v x h
 | .thm,v,x,h=>inj_thm_ok v x h
 | .lthm,v,x,h=>inj_lthm_ok v x h
 | .lltm,v,x,h=>inj_lltm_ok v x h
 | .u64,v,x,h=>inj_u64_ok v x h
 | .engine,v,x,h=>inj_engine_ok v x h
theorem G_injv:∀(t:GT) (x:gI t),ginj t (gvw t x)=some x
 | .bool,x=>rfl
 | .int,x=>rfl
 | .u8,x=>rfl
 | .str,x=>rfl
 | .nat,x=>(if_pos (Int.natCast_nonneg x):(if(0:Int)<=Int.ofNat x then some (Int.ofNat x).toNat else none)=some x)
 | .ty,x=>by cases x;rfl
 | .lty,x=>rfl
 | .tm,x=>by cases x;rfl
 | .ltm,x=>rfl
 | .sequent,x=>rfl
 | .typeop,x=>rfl
 | .ltypeop,x=>rfl
 | .const,x=>rfl
 | .lconst,x=>rfl
 | .signature,x=>rfl
 | .lsequent,x=>rfl
 | .decl,x=>rfl
 | .node,x=>by cases x;rfl
 | .pnode,x=>rfl
 | .theory,x=>rfl
 | .lint,x=>rfl
 | .fnc,x=>nomatch x
 | .ltheory,x=>rfl
 | .typebind,x=>rfl
 | .ltypebind,x=>rfl
 | .psequent,x=>rfl
 | .thm,x=>rfl
 | .lthm,x=>rfl
 | .lltm,x=>rfl
 | .u64,x=>rfl
 | .engine,x=>rfl
theorem G_ok:G.Ok:=⟨G_cvw,G_len,G_stv,G_inj,G_injv,G_pure,fun _=>rfl,fun _=>rfl,fun _=>rfl,fun _=>rfl,fun _=>rfl,fun _=>rfl⟩
def T(n:Nat):Od G:=.t n
def o(d:Nat)(q:Q G):P1 G:=.a (some d) (.q q)
def tyo(α:Type)(o:Option α):Option α:=o
theorem aq{g:Nat}{args:List (N G)}(x:XFn G)(l:List (Sh G)){X:List (Nat×Nat×FnX G)}{t:Option (Tup G ((oneSh l).ty []))}(h1:lkX X 0 g=some (.code x))(h2:x.out=.pure l)(h3:Nat.ble args.length x.N=true)(h4:run (Finf X) x.body ⟨initN 0 args,[],[]⟩ (fun e s=>dcR (oneSh l) (finK 0 [] x e s))=t):ans X g (oneSh l) args=t:=(ans_eq G_ok h1 h2 h3).trans h4
theorem aqG{v g n:Nat}{ho:List (HSh G)}{H:List (HB G)}{args:List (N G)}(x:XFn G)(l:List (Sh G)){X:List (Nat×Nat×FnX G)}{t:Option (Tup G (hTy ho ((oneSh l).ty [])))}(h1:lkX X v g=some (.code x))(h2:x.out=.own n ho l)(h3:solids ho=true)(h4:RowsOk ho)(h5:(Nat.ble args.length x.N && noPin H)=true)
  (h6:run (Finf X) x.body ⟨initN 0 args,H++(boxIx v 0 H).map .pin,[]⟩ (fun e s=>dcG ho (oneSh l) (finK H.length (boxIx v 0 H) x e s))=t):ansG X v g ho (oneSh l) H args=t:=(ansG_eq G_ok h1 h2 h3 h4 h5).trans h6
instance (n:Nat):OfNat (Od G) n:=⟨.t n⟩
def cI(n:Int):Od G:=.c (.v .int n)
def cB(b:Bool):Od G:=.c (.v .bool b)
def oM(d:Nat)(x:Od G):P1 G:=o d (.mv x)
def oL(d:Nat)(t:GT)(a:Od G):P1 G:=o d (.ld t a)
def oI(d:Nat)(t:GT)(a:Od G):P1 G:=o d (.ldi t a)
def oF(d:Nat)(t:GT)(i:Nat)(a:Od G):P1 G:=o d (.fa t i a)
def oX(d:Nat)(e:GT)(x y:Od G):P1 G:=o d (.ia e x y)
def oE(d:Nat)(x:Od G)(n:Nat):P1 G:=o d (.ext x n)
def oS(m:Nat)(t:GT)(a x:Od G):P1 G:=.a none (.st m t a x)
def oA(d:Nat)(t:TypeId)(z:N G):P1 G:=.a (some d) (.alm t z)
def ob(d:Nat)(x:Od G):P1 G:=o d (.bx x)
def oN(d:Nat)(x:Od G):P1 G:=o d (.nc x)
def oU(d:Nat)(x:Od G):P1 G:=o d (.len x)
def oO(d:Nat)(b:BinOp)(x y:Od G):P1 G:=o d (.bi b x y)
def oC(d g:Nat)(xs:List (Od G))(ts:List GT)(r:Sh G):P1 G:=.call 0 (some d) (.c (.fn g [] [])) xs (ts.map some) r
def tp(l:List GT):Sh G:=.tup (l.map .p)
def sq(l:List (P1 G))(c:TC G):TC G:=.seq (.ops l) c
end Go.Ab.X
