/- A part of the proof: UC. -/
import Derived.Test.YtgkiahgcgjigkaaDoorX5
import Derived.KernelRfl
set_option linter.all false
set_option linter.all false
set_option maxRecDepth 100000
set_option maxHeartbeats 4000000
namespace Go.Ab.X
open Go.RowKit Go.Ab
theorem pureL_app:∀(a b:List AV),pureL (a++b)=(pureL a && pureL b)
 | [],b=>by simp[pureL]
 | x::a,b=>by simp[pureL,pureL_app a b,Bool.and_assoc]
theorem pureE_mapC{α:Type}{C:α->List AV}(h:∀ x,pureL (C x)=true)(l:List α):pureE (List.map C l)=true:=by
 induction l with
 | nil=>rfl
 | cons x l ih=>simp[pureE,h,ih]
inductive GT where
 | bool|int|u8|str|nat|ty|lty|tm|ltm|cmd|lcmd|i32|fnc|lstr|lu8|ifc
 deriving DecidableEq
structure Scmd where
 op:Int
 n:Int
 text:ByteArray
def gI:GT->Type
 | .bool=>Bool
 | .int=>Int
 | .u8=>Int
 | .str=>ByteArray
 | .nat=>Nat
 | .ty=>Ty
 | .lty=>(List Ty)
 | .tm=>Tm
 | .ltm=>(List Tm)
 | .cmd=>Scmd
 | .lcmd=>(List Scmd)
 | .i32=>Int
 | .fnc=>Empty
 | .lstr=>(List ByteArray)
 | .lu8=>(List Int)
 | .ifc=>Empty
def gsz:GT->Nat
 | .bool=>1
 | .int=>1
 | .u8=>1
 | .str=>1
 | .nat=>1
 | .ty=>3
 | .lty=>1
 | .tm=>7
 | .ltm=>1
 | .cmd=>3
 | .lcmd=>1
 | .i32=>1
 | .fnc=>1
 | .lstr=>1
 | .lu8=>1
 | .ifc=>1
def gst:GT->Bool
 | .bool=>false
 | .int=>false
 | .u8=>false
 | .str=>false
 | .nat=>false
 | .ty=>true
 | .lty=>false
 | .tm=>true
 | .ltm=>false
 | .cmd=>true
 | .lcmd=>false
 | .i32=>false
 | .fnc=>false
 | .lstr=>false
 | .lu8=>false
 | .ifc=>false
def gel:GT->GT
 | .bool=>.bool
 | .int=>.int
 | .u8=>.u8
 | .str=>.str
 | .nat=>.nat
 | .ty=>.ty
 | .lty=>.ty
 | .tm=>.tm
 | .ltm=>.tm
 | .cmd=>.cmd
 | .lcmd=>.cmd
 | .i32=>.i32
 | .fnc=>.fnc
 | .lstr=>.str
 | .lu8=>.u8
 | .ifc=>.ifc
def gfts:GT->List GT
 | .bool=>[]
 | .int=>[]
 | .u8=>[]
 | .str=>[]
 | .nat=>[]
 | .ty=>[.bool,.str,.lty]
 | .lty=>[]
 | .tm=>[.u8,.str,.ty,.int,.ltm]
 | .ltm=>[]
 | .cmd=>[.u8,.int,.str]
 | .lcmd=>[]
 | .i32=>[]
 | .fnc=>[]
 | .lstr=>[]
 | .lu8=>[]
 | .ifc=>[]
def C_bool(x:Bool):List AV:=[.b x]
def C_int(x:Int):List AV:=[.i .i64 x]
def C_u8(x:Int):List AV:=[.i .u8 x]
def C_str(x:ByteArray):List AV:=[.s x]
def C_nat(x:Nat):List AV:=[.i .u64 (Int.ofNat x)]
def C_ty(x:Ty):List AV:=tyC x
def C_lty(x:(List Ty)):List AV:=[.sl false 3 (List.map C_ty x)]
def C_tm(x:Tm):List AV:=tmC x
def C_ltm(x:(List Tm)):List AV:=[.sl false 7 (List.map C_tm x)]
def C_cmd(x:Scmd):List AV:=C_u8 x.op++(C_int x.n++(C_str x.text++[]))
def C_lcmd(x:(List Scmd)):List AV:=[.sl false 3 (List.map C_cmd x)]
def C_i32(x:Int):List AV:=[.i .i32 x]
def C_fnc(x:Empty):List AV:=nomatch x
def C_lstr(x:(List ByteArray)):List AV:=[.sl false 1 (List.map C_str x)]
def C_lu8(x:(List Int)):List AV:=[.sl false 1 (List.map C_u8 x)]
def C_ifc(x:Empty):List AV:=nomatch x
def gvw:(t:GT)->gI t->View GT gI
 | .bool,x=>.bool x
 | .int,x=>.int .i64 x
 | .u8,x=>.int .u8 x
 | .str,x=>.str x
 | .nat,x=>.int .u64 (Int.ofNat x)
 | .ty,x=>.fds [⟨.bool,x.v⟩,⟨.str,x.n⟩,⟨.lty,x.a⟩]
 | .lty,x=>.lst .ty x
 | .tm,x=>.fds [⟨.u8,x.k⟩,⟨.str,x.n⟩,⟨.ty,x.y⟩,⟨.int,x.i⟩,⟨.ltm,x.s⟩]
 | .ltm,x=>.lst .tm x
 | .cmd,x=>.fds [⟨.u8,x.op⟩,⟨.int,x.n⟩,⟨.str,x.text⟩]
 | .lcmd,x=>.lst .cmd x
 | .i32,x=>.int .i32 x
 | .fnc,x=>nomatch x
 | .lstr,x=>.lst .str x
 | .lu8,x=>.lst .u8 x
 | .ifc,x=>nomatch x
def inj_bool(v:View GT gI):Option Bool:=match v with
 | .bool x=>some x
 | _=>none
theorem inj_bool_ok(v:View GT gI)(x:Bool)(h:inj_bool v=some x):gvw .bool x=v:=by
 unfold inj_bool at h;split at h
 ·cases h;rfl
 ·cases h
def inj_int(v:View GT gI):Option Int:=match v with
 | .int .i64 x=>some x
 | _=>none
theorem inj_int_ok(v:View GT gI)(x:Int)(h:inj_int v=some x):gvw .int x=v:=by
 unfold inj_int at h;split at h
 ·cases h;rfl
 ·cases h
def inj_u8(v:View GT gI):Option Int:=match v with
 | .int .u8 x=>some x
 | _=>none
theorem inj_u8_ok(v:View GT gI)(x:Int)(h:inj_u8 v=some x):gvw .u8 x=v:=by
 unfold inj_u8 at h;split at h
 ·cases h;rfl
 ·cases h
def inj_str(v:View GT gI):Option ByteArray:=match v with
 | .str x=>some x
 | _=>none
theorem inj_str_ok(v:View GT gI)(x:ByteArray)(h:inj_str v=some x):gvw .str x=v:=by
 unfold inj_str at h;split at h
 ·cases h;rfl
 ·cases h
def inj_nat(v:View GT gI):Option Nat:=match v with
 | .int .u64 z=>if 0<=z then some z.toNat else none
 | _=>none
theorem inj_nat_ok(v:View GT gI)(x:Nat)(h:inj_nat v=some x):gvw .nat x=v:=by
 unfold inj_nat at h;split at h
 ·split at h
  ·cases h;rename_i h;exact congrArg (View.int .u64) (Int.toNat_of_nonneg h)
  ·cases h
 ·cases h
def inj_ty(v:View GT gI):Option Ty:=match v with
 | .fds [⟨.bool,y0⟩,⟨.str,y1⟩,⟨.lty,y2⟩]=>some (Ty.mk y0 y1 y2)
 | _=>none
theorem inj_ty_ok(v:View GT gI)(x:Ty)(h:inj_ty v=some x):gvw .ty x=v:=by
 unfold inj_ty at h;split at h
 ·cases h;rfl
 ·cases h
def inj_lty(v:View GT gI):Option (List Ty):=match v with
 | .lst .ty x=>some x
 | _=>none
theorem inj_lty_ok(v:View GT gI)(x:(List Ty))(h:inj_lty v=some x):gvw .lty x=v:=by
 unfold inj_lty at h;split at h
 ·cases h;rfl
 ·cases h
def inj_tm(v:View GT gI):Option Tm:=match v with
 | .fds [⟨.u8,y0⟩,⟨.str,y1⟩,⟨.ty,y2⟩,⟨.int,y3⟩,⟨.ltm,y4⟩]=>some (Tm.mk y0 y1 y2 y3 y4)
 | _=>none
theorem inj_tm_ok(v:View GT gI)(x:Tm)(h:inj_tm v=some x):gvw .tm x=v:=by
 unfold inj_tm at h;split at h
 ·cases h;rfl
 ·cases h
def inj_ltm(v:View GT gI):Option (List Tm):=match v with
 | .lst .tm x=>some x
 | _=>none
theorem inj_ltm_ok(v:View GT gI)(x:(List Tm))(h:inj_ltm v=some x):gvw .ltm x=v:=by
 unfold inj_ltm at h;split at h
 ·cases h;rfl
 ·cases h
def inj_cmd(v:View GT gI):Option Scmd:=match v with
 | .fds [⟨.u8,y0⟩,⟨.int,y1⟩,⟨.str,y2⟩]=>some (Scmd.mk y0 y1 y2)
 | _=>none
theorem inj_cmd_ok(v:View GT gI)(x:Scmd)(h:inj_cmd v=some x):gvw .cmd x=v:=by
 unfold inj_cmd at h;split at h
 ·cases h;rfl
 ·cases h
def inj_lcmd(v:View GT gI):Option (List Scmd):=match v with
 | .lst .cmd x=>some x
 | _=>none
theorem inj_lcmd_ok(v:View GT gI)(x:(List Scmd))(h:inj_lcmd v=some x):gvw .lcmd x=v:=by
 unfold inj_lcmd at h;split at h
 ·cases h;rfl
 ·cases h
def inj_i32(v:View GT gI):Option Int:=match v with
 | .int .i32 x=>some x
 | _=>none
theorem inj_i32_ok(v:View GT gI)(x:Int)(h:inj_i32 v=some x):gvw .i32 x=v:=by
 unfold inj_i32 at h;split at h
 ·cases h;rfl
 ·cases h
def inj_lstr(v:View GT gI):Option (List ByteArray):=match v with
 | .lst .str x=>some x
 | _=>none
theorem inj_lstr_ok(v:View GT gI)(x:(List ByteArray))(h:inj_lstr v=some x):gvw .lstr x=v:=by
 unfold inj_lstr at h;split at h
 ·cases h;rfl
 ·cases h
def inj_lu8(v:View GT gI):Option (List Int):=match v with
 | .lst .u8 x=>some x
 | _=>none
theorem inj_lu8_ok(v:View GT gI)(x:(List Int))(h:inj_lu8 v=some x):gvw .lu8 x=v:=by
 unfold inj_lu8 at h;split at h
 ·cases h;rfl
 ·cases h
def ginj:(t:GT)->View GT gI->Option (gI t)
 | .bool,v=>inj_bool v
 | .int,v=>inj_int v
 | .u8,v=>inj_u8 v
 | .str,v=>inj_str v
 | .nat,v=>inj_nat v
 | .ty,v=>inj_ty v
 | .lty,v=>inj_lty v
 | .tm,v=>inj_tm v
 | .ltm,v=>inj_ltm v
 | .cmd,v=>inj_cmd v
 | .lcmd,v=>inj_lcmd v
 | .i32,v=>inj_i32 v
 | .fnc,v=>none
 | .lstr,v=>inj_lstr v
 | .lu8,v=>inj_lu8 v
 | .ifc,v=>none
def gC:(t:GT)->gI t->List AV
 | .bool,x=>C_bool x
 | .int,x=>C_int x
 | .u8,x=>C_u8 x
 | .str,x=>C_str x
 | .nat,x=>C_nat x
 | .ty,x=>C_ty x
 | .lty,x=>C_lty x
 | .tm,x=>C_tm x
 | .ltm,x=>C_ltm x
 | .cmd,x=>C_cmd x
 | .lcmd,x=>C_lcmd x
 | .i32,x=>C_i32 x
 | .fnc,x=>C_fnc x
 | .lstr,x=>C_lstr x
 | .lu8,x=>C_lu8 x
 | .ifc,x=>C_ifc x
def G:Uni:=⟨GT,gI,inferInstance,gsz,gst,gel,gfts,.bool,.int,.u8,.str,fun b=>b,fun n=>n,fun n=>n,fun s=>s,gvw,ginj,gC,.nat,fun n=>n,fun n=>n⟩
theorem len_bool(x:Bool):(C_bool x).length=1:=rfl
theorem pure_bool'(x:Bool):pureL (C_bool x)=true:=rfl
theorem cvw_bool(x:Bool):C_bool x=cellsV gC gsz (gvw .bool x):=rfl
theorem len_int(x:Int):(C_int x).length=1:=rfl
theorem pure_int'(x:Int):pureL (C_int x)=true:=rfl
theorem cvw_int(x:Int):C_int x=cellsV gC gsz (gvw .int x):=rfl
theorem len_u8(x:Int):(C_u8 x).length=1:=rfl
theorem pure_u8'(x:Int):pureL (C_u8 x)=true:=rfl
theorem cvw_u8(x:Int):C_u8 x=cellsV gC gsz (gvw .u8 x):=rfl
theorem len_str(x:ByteArray):(C_str x).length=1:=rfl
theorem pure_str'(x:ByteArray):pureL (C_str x)=true:=rfl
theorem cvw_str(x:ByteArray):C_str x=cellsV gC gsz (gvw .str x):=rfl
theorem len_nat(x:Nat):(C_nat x).length=1:=rfl
theorem pure_nat'(x:Nat):pureL (C_nat x)=true:=rfl
theorem cvw_nat(x:Nat):C_nat x=cellsV gC gsz (gvw .nat x):=rfl
theorem len_ty(x:Ty):(C_ty x).length=3:=by exact tyC_length x
theorem pure_ty'(x:Ty):pureL (C_ty x)=true:=pure_ty x
theorem cvw_ty(x:Ty):C_ty x=cellsV gC gsz (gvw .ty x):=by show tyC x=_;rw[tyC_eq,tysC_map];rfl
theorem len_lty(x:(List Ty)):(C_lty x).length=1:=rfl
theorem pure_lty'(x:(List Ty)):pureL (C_lty x)=true:=by simp only[C_lty,pureL,pureB,pureE_mapC pure_ty',Bool.and_self]
theorem cvw_lty(x:(List Ty)):C_lty x=cellsV gC gsz (gvw .lty x):=rfl
theorem len_tm(x:Tm):(C_tm x).length=7:=by exact tmC_length x
theorem pure_tm'(x:Tm):pureL (C_tm x)=true:=pure_tm x
theorem cvw_tm(x:Tm):C_tm x=cellsV gC gsz (gvw .tm x):=by show tmC x=_;rw[tmC_eq,tmsC_map,tyC_eq,tysC_map];show _=[AV.i .u8 x.k]++([AV.s x.n]++(tyC x.y++([AV.i .i64 x.i]++([AV.sl false 7 (List.map C_tm x.s)]++[]))));rw[tyC_eq,tysC_map];rfl
theorem len_ltm(x:(List Tm)):(C_ltm x).length=1:=rfl
theorem pure_ltm'(x:(List Tm)):pureL (C_ltm x)=true:=by simp only[C_ltm,pureL,pureB,pureE_mapC pure_tm',Bool.and_self]
theorem cvw_ltm(x:(List Tm)):C_ltm x=cellsV gC gsz (gvw .ltm x):=rfl
theorem len_cmd(x:Scmd):(C_cmd x).length=3:=by simp only[C_cmd,List.length_append,List.length_nil,len_int,len_str,len_u8]
theorem pure_cmd'(x:Scmd):pureL (C_cmd x)=true:=by simp only[C_cmd,pureL_app,pureL,Bool.and_self,pure_int',pure_str',pure_u8']
theorem cvw_cmd(x:Scmd):C_cmd x=cellsV gC gsz (gvw .cmd x):=rfl
theorem len_lcmd(x:(List Scmd)):(C_lcmd x).length=1:=rfl
theorem pure_lcmd'(x:(List Scmd)):pureL (C_lcmd x)=true:=by simp only[C_lcmd,pureL,pureB,pureE_mapC pure_cmd',Bool.and_self]
theorem cvw_lcmd(x:(List Scmd)):C_lcmd x=cellsV gC gsz (gvw .lcmd x):=rfl
theorem len_i32(x:Int):(C_i32 x).length=1:=rfl
theorem pure_i32'(x:Int):pureL (C_i32 x)=true:=rfl
theorem cvw_i32(x:Int):C_i32 x=cellsV gC gsz (gvw .i32 x):=rfl
theorem len_lstr(x:(List ByteArray)):(C_lstr x).length=1:=rfl
theorem pure_lstr'(x:(List ByteArray)):pureL (C_lstr x)=true:=by simp only[C_lstr,pureL,pureB,pureE_mapC pure_str',Bool.and_self]
theorem cvw_lstr(x:(List ByteArray)):C_lstr x=cellsV gC gsz (gvw .lstr x):=rfl
theorem len_lu8(x:(List Int)):(C_lu8 x).length=1:=rfl
theorem pure_lu8'(x:(List Int)):pureL (C_lu8 x)=true:=by simp only[C_lu8,pureL,pureB,pureE_mapC pure_u8',Bool.and_self]
theorem cvw_lu8(x:(List Int)):C_lu8 x=cellsV gC gsz (gvw .lu8 x):=rfl
theorem G_cvw:∀(t:GT) (x:gI t),gC t x=cellsV gC gsz (gvw t x)
 | .bool,x=>cvw_bool x
 | .int,x=>cvw_int x
 | .u8,x=>cvw_u8 x
 | .str,x=>cvw_str x
 | .nat,x=>cvw_nat x
 | .ty,x=>cvw_ty x
 | .lty,x=>cvw_lty x
 | .tm,x=>cvw_tm x
 | .ltm,x=>cvw_ltm x
 | .cmd,x=>cvw_cmd x
 | .lcmd,x=>cvw_lcmd x
 | .i32,x=>cvw_i32 x
 | .fnc,x=>nomatch x
 | .lstr,x=>cvw_lstr x
 | .lu8,x=>cvw_lu8 x
 | .ifc,x=>nomatch x
theorem G_len:∀(t:GT) (x:gI t),(gC t x).length=gsz t
 | .bool,x=>len_bool x
 | .int,x=>len_int x
 | .u8,x=>len_u8 x
 | .str,x=>len_str x
 | .nat,x=>len_nat x
 | .ty,x=>len_ty x
 | .lty,x=>len_lty x
 | .tm,x=>len_tm x
 | .ltm,x=>len_ltm x
 | .cmd,x=>len_cmd x
 | .lcmd,x=>len_lcmd x
 | .i32,x=>len_i32 x
 | .fnc,x=>nomatch x
 | .lstr,x=>len_lstr x
 | .lu8,x=>len_lu8 x
 | .ifc,x=>nomatch x
theorem G_stv:∀(t:GT) (x:gI t),gst t=(gvw t x).isRec
 | .bool,x=>rfl
 | .int,x=>rfl
 | .u8,x=>rfl
 | .str,x=>rfl
 | .nat,x=>rfl
 | .ty,x=>rfl
 | .lty,x=>rfl
 | .tm,x=>rfl
 | .ltm,x=>rfl
 | .cmd,x=>rfl
 | .lcmd,x=>rfl
 | .i32,x=>rfl
 | .fnc,x=>nomatch x
 | .lstr,x=>rfl
 | .lu8,x=>rfl
 | .ifc,x=>nomatch x
theorem G_pure:∀(t:GT) (x:gI t),pureL (gC t x)=true
 | .bool,x=>pure_bool' x
 | .int,x=>pure_int' x
 | .u8,x=>pure_u8' x
 | .str,x=>pure_str' x
 | .nat,x=>pure_nat' x
 | .ty,x=>pure_ty' x
 | .lty,x=>pure_lty' x
 | .tm,x=>pure_tm' x
 | .ltm,x=>pure_ltm' x
 | .cmd,x=>pure_cmd' x
 | .lcmd,x=>pure_lcmd' x
 | .i32,x=>pure_i32' x
 | .fnc,x=>nomatch x
 | .lstr,x=>pure_lstr' x
 | .lu8,x=>pure_lu8' x
 | .ifc,x=>nomatch x
theorem G_inj:∀(t:GT) (v:View GT gI) (x:gI t),ginj t v=some x->gvw t x=v
 | .bool,v,x,h=>inj_bool_ok v x h
 | .int,v,x,h=>inj_int_ok v x h
 | .u8,v,x,h=>inj_u8_ok v x h
 | .str,v,x,h=>inj_str_ok v x h
 | .nat,v,x,h=>inj_nat_ok v x h
 | .ty,v,x,h=>inj_ty_ok v x h
 | .lty,v,x,h=>inj_lty_ok v x h
 | .tm,v,x,h=>inj_tm_ok v x h
 | .ltm,v,x,h=>inj_ltm_ok v x h
 | .cmd,v,x,h=>inj_cmd_ok v x h
 | .lcmd,v,x,h=>inj_lcmd_ok v x h
 | .i32,v,x,h=>inj_i32_ok v x h
 | .fnc,v,x,h=>nomatch x
 | .lstr,v,x,h=>inj_lstr_ok v x h
 | .lu8,v,x,h=>inj_lu8_ok v x h
 | .ifc,v,x,h=>nomatch x
theorem G_injv:∀(t:GT) (x:gI t),ginj t (gvw t x)=some x
 | .bool,x=>rfl
 | .int,x=>rfl
 | .u8,x=>rfl
 | .str,x=>rfl
 | .nat,x=>(if_pos (Int.natCast_nonneg x):(if(0:Int)<=Int.ofNat x then some (Int.ofNat x).toNat else none)=some x)
 | .ty,x=>by cases x;rfl
 | .lty,x=>rfl
 | .tm,x=>by cases x;rfl
 | .ltm,x=>rfl
 | .cmd,x=>rfl
 | .lcmd,x=>rfl
 | .i32,x=>rfl
 | .fnc,x=>nomatch x
 | .lstr,x=>rfl
 | .lu8,x=>rfl
 | .ifc,x=>nomatch x
theorem G_mps:∀(t:GT) (x:gI t) (q:Option IntKind) (kt vt:GT) (sb:Bool) (l:List (gI kt×gI vt)),gvw t x=.mp q kt vt sb l->sb=gst vt/\gst kt=false
 | .bool,x,_,_,_,_,_,h=>by cases h
 | .int,x,_,_,_,_,_,h=>by cases h
 | .u8,x,_,_,_,_,_,h=>by cases h
 | .str,x,_,_,_,_,_,h=>by cases h
 | .nat,x,_,_,_,_,_,h=>by cases h
 | .ty,x,_,_,_,_,_,h=>by cases x<;>cases h
 | .lty,x,_,_,_,_,_,h=>by cases h
 | .tm,x,_,_,_,_,_,h=>by cases x<;>cases h
 | .ltm,x,_,_,_,_,_,h=>by cases h
 | .cmd,x,_,_,_,_,_,h=>by cases h
 | .lcmd,x,_,_,_,_,_,h=>by cases h
 | .i32,x,_,_,_,_,_,h=>by cases h
 | .fnc,x,_,_,_,_,_,h=>nomatch x
 | .lstr,x,_,_,_,_,_,h=>by cases h
 | .lu8,x,_,_,_,_,_,h=>by cases h
 | .ifc,x,_,_,_,_,_,h=>nomatch x
theorem G_ok:G.Ok:=⟨G_cvw,G_len,G_stv,G_inj,G_injv,G_pure,fun _=>rfl,fun _=>rfl,fun _=>rfl,fun _=>rfl,fun _=>rfl,fun _=>rfl,G_mps⟩
def T(n:Nat):Od G:=.t n
def o(d:Nat)(q:Q G):P1 G:=.a (some d) (.q q)
theorem aq{g:Nat}{args:List (N G)}(x:XFn G)(l:List (Sh G)){X:List (Nat×Nat×FnX G)}{t:Option (Tup G ((oneSh l).ty []))}(h1:lkX X 0 g=some (.code x))(h2:x.out=.pure l)(h3:Nat.ble args.length x.N=true)(h4:run (Finf X) x.body ⟨initN 0 args,[],[]⟩ (fun e s=>dcR (oneSh l) (finK 0 [] x e s))=t):ans X g (oneSh l) args=t:=(ans_eq G_ok h1 h2 h3).trans h4
instance (n:Nat):OfNat (Od G) n:=⟨.t n⟩
def cI(n:Int):Od G:=.c (.v .int n)
def cB(b:Bool):Od G:=.c (.v .bool b)
def oM(d:Nat)(x:Od G):P1 G:=o d (.mv x)
def oL(d:Nat)(t:GT)(a:Od G):P1 G:=o d (.ld t a)
def oI(d:Nat)(t:GT)(a:Od G):P1 G:=o d (.ldi t a)
def oF(d:Nat)(t:GT)(i:Nat)(a:Od G):P1 G:=o d (.fa t i a)
def oX(d:Nat)(e:GT)(x y:Od G):P1 G:=o d (.ia e x y)
def oE(d:Nat)(x:Od G)(n:Nat):P1 G:=o d (.ext x n)
def oS(m:Nat)(t:GT)(a x:Od G):P1 G:=.a none (.st m t a x)
def oA(d:Nat)(t:TypeId)(z:N G):P1 G:=.a (some d) (.alm t z)
def ob(d:Nat)(x:Od G):P1 G:=o d (.bx x)
def oU(d:Nat)(x:Od G):P1 G:=o d (.len x)
def oO(d:Nat)(b:BinOp)(x y:Od G):P1 G:=o d (.bi b x y)
def oC(d g:Nat)(xs:List (Od G))(ts:List GT)(r:Sh G):P1 G:=.call 0 (some d) (.c (.fn g [] [])) xs (ts.map some) r
def tp(l:List GT):Sh G:=.tup (l.map .p)
def sq(l:List (P1 G))(c:TC G):TC G:=.seq (.ops l) c
end Go.Ab.X
