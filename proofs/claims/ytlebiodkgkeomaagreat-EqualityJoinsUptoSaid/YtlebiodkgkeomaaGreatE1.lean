/- A part of the proof: E1. -/
import Derived.Test.YtlebiodkgkeomaaGreatUX
set_option linter.all false
set_option linter.all false
set_option maxRecDepth 100000
set_option maxHeartbeats 4000000
namespace Go.Ab.X
open Go.RowKit Go.Ab
noncomputable section
def ref01_count(t1:Ty)(left2:Int)(depth3:Int):Option (Int):=ans X 112 (.p .int) [.v .ty t1,.v .int left2,.v .int depth3]
def ref01_count.j2(t1:Ty)(s4:Int×Int)(depth3:Int)(next1:(Int×Int)->Option (Int))(s5:Bool):Option (Int):=(bif s5 then((ixL t1.a s4.2).bind fun e6=>((ref01_count e6 s4.1 (IntKind.i64.wrap (depth3-1))).bind fun r7=>(next1 (r7,(IntKind.i64.wrap (s4.2+1))))))else some s4.1)
def ref01_count.s1(t1:Ty)(depth3:Int)(s4:Int×Int)(next1:(Int×Int)->Option (Int)):Option (Int):=(jn (ref01_count.j2 t1 s4 depth3 next1) (fun kk2=>(bif(decide (s4.2<(List.length t1.a:Int)))then(kk2 (decide ((0:Int)<s4.1)))else(kk2 false))))
theorem ref01_count_eq(t1:Ty)(left2:Int)(depth3:Int):ref01_count t1 left2 depth3=(bif(decide (depth3=(0:Int)))then some 0 else(if(100:Int)=0 then none else(loopN (ref01_count.s1 t1 depth3) ((IntKind.i64.wrap ((IntKind.i64.wrap (left2-1))-(IntKind.i64.wrap (Int.tdiv (ByteArray.size t1.n:Int) 100)))),0)))):=
 aq c112 [.p .int] (by kernel_rfl) rfl (by kernel_rfl) (by kernel_rfl)
def ref01_Great(t1:Ty):Option (Bool):=ans X 67 (.p .bool) [.v .ty t1]
theorem ref01_Great_eq(t1:Ty):ref01_Great t1=((ref01_count t1 1500 500).bind fun r2=>some (decide (r2<=(0:Int)))):=
 aq c67 [.p .bool] (by kernel_rfl) rfl (by kernel_rfl) (by kernel_rfl)
def ref02_count(t1:Tm)(left2:Int)(depth3:Int):Option (Int):=ans X 31 (.p .int) [.v .tm t1,.v .int left2,.v .int depth3]
def ref02_count.j3(t1:Tm)(s5:Int×Int)(depth3:Int)(next2:(Int×Int)->Option (Int))(s6:Bool):Option (Int):=(bif s6 then((ixL t1.s s5.2).bind fun e7=>((ref02_count e7 s5.1 (IntKind.i64.wrap (depth3-1))).bind fun r8=>(next2 (r8,(IntKind.i64.wrap (s5.2+1))))))else some s5.1)
def ref02_count.s2(t1:Tm)(depth3:Int)(s5:Int×Int)(next2:(Int×Int)->Option (Int)):Option (Int):=(jn (ref02_count.j3 t1 s5 depth3 next2) (fun kk3=>(bif(decide (s5.2<(List.length t1.s:Int)))then(kk3 (decide ((0:Int)<s5.1)))else(kk3 false))))
def ref02_count.j1(t1:Tm)(depth3:Int)(left2:Int)(s4:Bool):Option (Int):=(bif s4 then some 0 else(if(100:Int)=0 then none else(loopN (ref02_count.s2 t1 depth3) ((IntKind.i64.wrap ((IntKind.i64.wrap (left2-1))-(IntKind.i64.wrap (Int.tdiv (ByteArray.size t1.n:Int) 100)))),0))))
theorem ref02_count_eq(t1:Tm)(left2:Int)(depth3:Int):ref02_count t1 left2 depth3=(jn (ref02_count.j1 t1 depth3 left2) (fun kk1=>(bif(decide (depth3=(0:Int)))then(kk1 true)else((ref01_Great t1.y).bind fun r9=>(kk1 r9))))):=
 aq c31 [.p .int] (by kernel_rfl) rfl (by kernel_rfl) (by kernel_rfl)
def ref02_Size(t1:Tm):Option (Int):=ans X 68 (.p .int) [.v .tm t1]
def ref02_Size.s1(t1:Tm)(s2:Int×Int)(next1:(Int×Int)->Option (Int)):Option (Int):=(bif(decide (s2.2<(List.length t1.s:Int)))then((ixL t1.s s2.2).bind fun e3=>((ref02_Size e3).bind fun r4=>(next1 ((IntKind.i64.wrap (s2.1+r4)),(s2.2+1)))))else some s2.1)
theorem ref02_Size_eq(t1:Tm):ref02_Size t1=(loopN (ref02_Size.s1 t1) (1,0)):=
 aq c68 [.p .int] (by kernel_rfl) rfl (by kernel_rfl) (by kernel_rfl)
def ref02_Depth(t1:Tm):Option (Int):=ans X 69 (.p .int) [.v .tm t1]
def ref02_Depth.s1(t1:Tm)(s2:Int×Int)(next1:(Int×Int)->Option (Int)):Option (Int):=(bif(decide (s2.2<(List.length t1.s:Int)))then((ixL t1.s s2.2).bind fun e3=>((ref02_Depth e3).bind fun r4=>(next1 ((max s2.1 r4),(s2.2+1)))))else some (IntKind.i64.wrap (1+s2.1)))
theorem ref02_Depth_eq(t1:Tm):ref02_Depth t1=(loopN (ref02_Depth.s1 t1) (0,0)):=
 aq c69 [.p .int] (by kernel_rfl) rfl (by kernel_rfl) (by kernel_rfl)
def ref02_Small(t1:Tm):Option (Bool):=ans X 32 (.p .bool) [.v .tm t1]
theorem ref02_Small_eq(t1:Tm):ref02_Small t1=((ref02_Size t1).bind fun r2=>(bif(decide (r2<=(32000:Int)))then((ref02_Depth t1).bind fun r3=>some (decide (r3<=(300:Int))))else some false)):=
 aq c32 [.p .bool] (by kernel_rfl) rfl (by kernel_rfl) (by kernel_rfl)
def ref02_Great(t1:Tm):Option (Bool):=ans X 6 (.p .bool) [.v .tm t1]
theorem ref02_Great_eq(t1:Tm):ref02_Great t1=((ref02_count t1 2000 400).bind fun r2=>(bif(decide ((0:Int)<r2))then some false else((ref02_count t1 40000 400).bind fun r3=>(bif(decide (r3<=(0:Int)))then some true else((ref02_Small t1).bind fun r4=>some r4))))):=
 aq c6 [.p .bool] (by kernel_rfl) rfl (by kernel_rfl) (by kernel_rfl)
def ref08_Great(s1:Ssequent):Option (Bool):=ans X 5 (.p .bool) [.v .sequent s1]
def ref08_Great.j3(next1:(Bool×Int)->Option (Bool))(s3:Bool×Int)(s5:Bool):Option (Bool):=(next1 (s5,(IntKind.i64.wrap (s3.2+1))))
def ref08_Great.j2(next1:(Bool×Int)->Option (Bool))(s3:Bool×Int)(s1:Ssequent)(s4:Bool):Option (Bool):=(bif s4 then(jn (ref08_Great.j3 next1 s3) (fun kk3=>(bif s3.1 then(kk3 true)else((ixL s1.hyps s3.2).bind fun e6=>((ref02_Great e6).bind fun r7=>(kk3 r7))))))else(bif s3.1 then some true else some (decide ((80:Int)<(List.length s1.hyps:Int)))))
def ref08_Great.s1(s1:Ssequent)(s3:Bool×Int)(next1:(Bool×Int)->Option (Bool)):Option (Bool):=(jn (ref08_Great.j2 next1 s3 s1) (fun kk2=>(bif(decide (s3.2<(List.length s1.hyps:Int)))then(kk2 (decide (s3.2<(80:Int))))else(kk2 false))))
theorem ref08_Great_eq(s1:Ssequent):ref08_Great s1=((ref02_Great s1.concl).bind fun r2=>(loopN (ref08_Great.s1 s1) (r2,0))):=
 aq c5 [.p .bool] (by kernel_rfl) rfl (by kernel_rfl) (by kernel_rfl)
def types_Bool:Option (Ty):=ans X 78 (.p .ty) []
theorem types_Bool_eq:types_Bool=some (Ty.mk false (⟨#[98,111,111,108]⟩:ByteArray) []):=
 aq c78 [.p .ty] (by kernel_rfl) rfl (by kernel_rfl) (by kernel_rfl)
def types_Twin(t1:Ty):Option (Ty):=ans X 84 (.p .ty) [.v .ty t1]
def types_Twin.s2(t1:Ty)(s2:Bool×ByteArray×(List Ty))(s3:Int×(List Ty))(next2:(Int×(List Ty))->Option (Ty)):Option (Ty):=(bif(decide (s3.1<(List.length t1.a:Int)))then((ixL t1.a s3.1).bind fun e4=>((types_Twin e4).bind fun r5=>(if 0<=s3.1/\s3.1<(List.length s3.2:Int)then(if(Int.toNat s3.1)<List.length s3.2 then(next2 ((s3.1+1),(List.set s3.2 (Int.toNat s3.1) r5)))else none)else none)))else some (Ty.mk s2.1 s2.2.1 s3.2))
def types_Twin.j1(t1:Ty)(s2:Bool×ByteArray×(List Ty)):Option (Ty):=(loopN (types_Twin.s2 t1 s2) (0,s2.2.2))
theorem types_Twin_eq(t1:Ty):types_Twin t1=(jn (types_Twin.j1 t1) (fun kk1=>(bif(decide ((0:Int)<(List.length t1.a:Int)))then(if 0<=(List.length t1.a:Int)/\Int.toNat (List.length t1.a:Int)<=LIM then(kk1 (t1.v,t1.n,(List.replicate (Int.toNat (List.length t1.a:Int)) (Ty.mk false (⟨#[]⟩:ByteArray) []))))else none)else(kk1 (t1.v,t1.n,[]))))):=
 aq c84 [.p .ty] (by kernel_rfl) rfl (by kernel_rfl) (by kernel_rfl)
def types_Fun(a1:Ty)(b2:Ty):Option (Ty):=ans X 77 (.p .ty) [.v .ty a1,.v .ty b2]
theorem types_Fun_eq(a1:Ty)(b2:Ty):types_Fun a1 b2=((types_Twin a1).bind fun r3=>((types_Twin b2).bind fun r4=>some (Ty.mk false (⟨#[102,117,110]⟩:ByteArray) [r3,r4]))):=
 aq c77 [.p .ty] (by kernel_rfl) rfl (by kernel_rfl) (by kernel_rfl)
def signature_Initial:Option (Ssignature):=ans X 37 (.p .signature) []
theorem signature_Initial_eq:signature_Initial=((types_Bool).bind fun r1=>((types_Fun (Ty.mk true (⟨#[39,97]⟩:ByteArray) []) r1).bind fun r2=>((types_Fun (Ty.mk true (⟨#[39,97]⟩:ByteArray) []) r2).bind fun r3=>some (Ssignature.mk [(Stypeop.mk (⟨#[98,111,111,108]⟩:ByteArray) 0),(Stypeop.mk (⟨#[102,117,110]⟩:ByteArray) 2)] [(Sconst.mk (⟨#[61]⟩:ByteArray) r3)])))):=
 aq c37 [.p .signature] (by kernel_rfl) rfl (by kernel_rfl) (by kernel_rfl)
def kernel_Initial:Option (Stheory):=ans X 8 (.p .theory) []
theorem kernel_Initial_eq:kernel_Initial=((signature_Initial).bind fun r1=>some (Stheory.mk (some (Nnode.mk (Sdecl.mk 0 (⟨#[]⟩:ByteArray) 0 (Ty.mk false (⟨#[]⟩:ByteArray) []) []) none 0 r1)))):=
 aq c8 [.p .theory] (by kernel_rfl) rfl (by kernel_rfl) (by kernel_rfl)
def ref01_Twin(t1:Ty):Option (Ty):=ans X 100 (.p .ty) [.v .ty t1]
def ref01_Twin.s1(t1:Ty)(s2:Int×Bool×ByteArray×(List Ty))(next1:(Int×Bool×ByteArray×(List Ty))->Option (Ty)):Option (Ty):=(bif(decide (s2.1<(List.length t1.a:Int)))then((ixL t1.a s2.1).bind fun e3=>((ref01_Twin e3).bind fun r4=>(if List.length s2.2.2.2+List.length [r4]<=LIM then(next1 ((s2.1+1),s2.2.1,s2.2.2.1,(s2.2.2.2++[r4])))else none)))else some (Ty.mk s2.2.1 s2.2.2.1 s2.2.2.2))
theorem ref01_Twin_eq(t1:Ty):ref01_Twin t1=(loopN (ref01_Twin.s1 t1) (0,t1.v,t1.n,[])):=
 aq c100 [.p .ty] (by kernel_rfl) rfl (by kernel_rfl) (by kernel_rfl)
def ref02_Twin(t1:Tm):Option (Tm):=ans X 70 (.p .tm) [.v .tm t1]
def ref02_Twin.s1(t1:Tm)(s3:Int×Int×ByteArray×Ty×Int×(List Tm))(next1:(Int×Int×ByteArray×Ty×Int×(List Tm))->Option (Tm)):Option (Tm):=(bif(decide (s3.1<(List.length t1.s:Int)))then((ixL t1.s s3.1).bind fun e4=>((ref02_Twin e4).bind fun r5=>(if List.length s3.2.2.2.2.2+List.length [r5]<=LIM then(next1 ((s3.1+1),s3.2.1,s3.2.2.1,s3.2.2.2.1,s3.2.2.2.2.1,(s3.2.2.2.2.2++[r5])))else none)))else some (Tm.mk s3.2.1 s3.2.2.1 s3.2.2.2.1 s3.2.2.2.2.1 s3.2.2.2.2.2))
theorem ref02_Twin_eq(t1:Tm):ref02_Twin t1=((ref01_Twin t1.y).bind fun r2=>(loopN (ref02_Twin.s1 t1) (0,t1.k,t1.n,r2,t1.i,[]))):=
 aq c70 [.p .tm] (by kernel_rfl) rfl (by kernel_rfl) (by kernel_rfl)
def ref02_IsEq(t1:Tm):Option (Tm×Tm×Bool):=ans X 33 (.tup [.p .tm,.p .tm,.p .bool]) [.v .tm t1]
def ref02_IsEq.j1(s2:Tm×Tm):Option (Tm×Tm×Bool):=some ((Tm.mk 0 (⟨#[]⟩:ByteArray) (Ty.mk false (⟨#[]⟩:ByteArray) []) 0 []),(Tm.mk 0 (⟨#[]⟩:ByteArray) (Ty.mk false (⟨#[]⟩:ByteArray) []) 0 []),false)
def ref02_IsEq.j3(t1:Tm)(kk1:(Tm×Tm)->Option (Tm×Tm×Bool))(s6:Bool):Option (Tm×Tm×Bool):=(bif s6 then((ixL t1.s 0).bind fun e7=>((ixL e7.s 1).bind fun e8=>((ref02_Twin e8).bind fun r9=>((ixL t1.s 1).bind fun e10=>((ref02_Twin e10).bind fun r11=>some (r9,r11,true))))))else(kk1 ((Tm.mk 0 (⟨#[]⟩:ByteArray) (Ty.mk false (⟨#[]⟩:ByteArray) []) 0 []),(Tm.mk 0 (⟨#[]⟩:ByteArray) (Ty.mk false (⟨#[]⟩:ByteArray) []) 0 []))))
def ref02_IsEq.j2(t1:Tm)(kk1:(Tm×Tm)->Option (Tm×Tm×Bool))(s3:Bool):Option (Tm×Tm×Bool):=(bif s3 then((ixL t1.s 0).bind fun e4=>((ixL e4.s 0).bind fun e5=>(jn (ref02_IsEq.j3 t1 kk1) (fun kk3=>(bif(decide (e5.k=(2:Int)))then(kk3 (decide (e5.n=(⟨#[61]⟩:ByteArray))))else(kk3 false))))))else(kk1 ((Tm.mk 0 (⟨#[]⟩:ByteArray) (Ty.mk false (⟨#[]⟩:ByteArray) []) 0 []),(Tm.mk 0 (⟨#[]⟩:ByteArray) (Ty.mk false (⟨#[]⟩:ByteArray) []) 0 []))))
theorem ref02_IsEq_eq(t1:Tm):ref02_IsEq t1=(jn (ref02_IsEq.j1) (fun kk1=>(jn (ref02_IsEq.j2 t1 kk1) (fun kk2=>(bif(decide (t1.k=(4:Int)))then(bif(decide ((List.length t1.s:Int)=(2:Int)))then((ixL t1.s 0).bind fun e12=>(bif(decide (e12.k=(4:Int)))then((ixL t1.s 0).bind fun e13=>(kk2 (decide ((List.length e13.s:Int)=(2:Int)))))else(kk2 false)))else(kk2 false))else(kk2 false)))))):=
 aq c33 [.p .tm,.p .tm,.p .bool] (by kernel_rfl) rfl (by kernel_rfl) (by kernel_rfl)
def terms_extent(t1:Tm):Option (Int×Int):=ans X 160 (.tup [.p .int,.p .int]) [.v .tm t1]
def terms_extent.s1(t1:Tm)(s2:Int×Int×Int)(next1:(Int×Int×Int)->Option (Int×Int)):Option (Int×Int):=(bif(decide (s2.2.2<(List.length t1.s:Int)))then((ixL t1.s s2.2.2).bind fun e3=>((terms_extent e3).bind fun r4=>(next1 ((IntKind.i64.wrap (s2.1+r4.1)),(max s2.2.1 r4.2),(s2.2.2+1)))))else some (s2.1,(IntKind.i64.wrap (s2.2.1+1))))
theorem terms_extent_eq(t1:Tm):terms_extent t1=(loopN (terms_extent.s1 t1) (1,0,0)):=
 aq c160 [.p .int,.p .int] (by kernel_rfl) rfl (by kernel_rfl) (by kernel_rfl)
def terms_great(t1:Tm):Option (Bool):=ans X 134 (.p .bool) [.v .tm t1]
theorem terms_great_eq(t1:Tm):terms_great t1=((terms_extent t1).bind fun r2=>(bif(decide ((32000:Int)<r2.1))then some true else some (decide ((300:Int)<r2.2)))):=
 aq c134 [.p .bool] (by kernel_rfl) rfl (by kernel_rfl) (by kernel_rfl)
def terms_plain(t1:Tm)(name2:Bool)(typ3:Bool)(index4:Bool):Option (Bool):=ans X 161 (.p .bool) [.v .tm t1,.v .bool name2,.v .bool typ3,.v .bool index4]
theorem terms_plain_eq(t1:Tm)(name2:Bool)(typ3:Bool)(index4:Bool):terms_plain t1 name2 typ3 index4=(bif name2 then(bif typ3 then(bif index4 then some true else some (decide (t1.i=(0:Int))))else(bif(!t1.y.v)then(bif(decide (t1.y.n=(⟨#[]⟩:ByteArray)))then(bif(decide ((List.length t1.y.a:Int)=(0:Int)))then(bif index4 then some true else some (decide (t1.i=(0:Int))))else some false)else some false)else some false))else(bif(decide (t1.n=(⟨#[]⟩:ByteArray)))then(bif typ3 then(bif index4 then some true else some (decide (t1.i=(0:Int))))else(bif(!t1.y.v)then(bif(decide (t1.y.n=(⟨#[]⟩:ByteArray)))then(bif(decide ((List.length t1.y.a:Int)=(0:Int)))then(bif index4 then some true else some (decide (t1.i=(0:Int))))else some false)else some false)else some false))else some false)):=
 aq c161 [.p .bool] (by kernel_rfl) rfl (by kernel_rfl) (by kernel_rfl)
def types_name(s1:ByteArray):Option (Bool):=ans X 172 (.p .bool) [.v .str s1]
def types_name.j3(next1:(Int)->Option (Bool))(s2:Int)(s5:Bool):Option (Bool):=(bif s5 then some false else(next1 (s2+1)))
def types_name.j2(next1:(Int)->Option (Bool))(s2:Int)(c3:Int)(s4:Bool):Option (Bool):=(bif s4 then some false else(jn (types_name.j3 next1 s2) (fun kk3=>(bif(decide (c3<(33:Int)))then(kk3 true)else(kk3 (decide ((126:Int)<c3)))))))
def types_name.s1(s1:ByteArray)(s2:Int)(next1:(Int)->Option (Bool)):Option (Bool):=(bif(decide (s2<(ByteArray.size s1:Int)))then((ixS s1 s2).bind fun c3=>(jn (types_name.j2 next1 s2 c3) (fun kk2=>(bif(decide (c3=(40:Int)))then(kk2 true)else(bif(decide (c3=(41:Int)))then(kk2 true)else(bif(decide (c3=(44:Int)))then(kk2 true)else(bif(decide (c3=(58:Int)))then(kk2 true)else(bif(decide (c3=(92:Int)))then(kk2 true)else(bif(decide (c3=(46:Int)))then(kk2 true)else(kk2 (decide (c3=(34:Int)))))))))))))else(bif(!decide (s1=(⟨#[]⟩:ByteArray)))then some (decide ((ByteArray.size s1:Int)<=(30:Int)))else some false))
theorem types_name_eq(s1:ByteArray):types_name s1=(loopN (types_name.s1 s1) 0):=
 aq c172 [.p .bool] (by kernel_rfl) rfl (by kernel_rfl) (by kernel_rfl)
def types_variable(s1:ByteArray):Option (Bool):=ans X 171 (.p .bool) [.v .str s1]
theorem types_variable_eq(s1:ByteArray):types_variable s1=((types_name s1).bind fun r2=>(bif r2 then((ixS s1 0).bind fun c3=>some (decide (c3=(39:Int))))else some false)):=
 aq c171 [.p .bool] (by kernel_rfl) rfl (by kernel_rfl) (by kernel_rfl)
def types_measure(t1:Ty):Option (Int×Int×Bool):=ans X 145 (.tup [.p .int,.p .int,.p .bool]) [.v .ty t1]
def types_measure.j3(next2:(Int×Int×Bool×Int)->Option (Int×Int×Bool))(s3:Int×Int×Bool×Int)(s4:Int×Int×Bool):Option (Int×Int×Bool):=(next2 (s4.1,s4.2.1,s4.2.2,(s3.2.2.2+1)))
def types_measure.s2(t1:Ty)(s3:Int×Int×Bool×Int)(next2:(Int×Int×Bool×Int)->Option (Int×Int×Bool)):Option (Int×Int×Bool):=(bif(decide (s3.2.2.2<(List.length t1.a:Int)))then(jn (types_measure.j3 next2 s3) (fun kk3=>((ixL t1.a s3.2.2.2).bind fun e5=>((types_measure e5).bind fun r6=>(bif s3.2.2.1 then(kk3 ((IntKind.i64.wrap (s3.1+r6.1)),(max s3.2.1 r6.2.1),r6.2.2))else(kk3 ((IntKind.i64.wrap (s3.1+r6.1)),(max s3.2.1 r6.2.1),false)))))))else some (s3.1,(IntKind.i64.wrap (s3.2.1+1)),s3.2.2.1))
def types_measure.j1(t1:Ty)(s2:Bool):Option (Int×Int×Bool):=(loopN (types_measure.s2 t1) (1,0,s2,0))
theorem types_measure_eq(t1:Ty):types_measure t1=(jn (types_measure.j1 t1) (fun kk1=>(bif t1.v then((types_variable t1.n).bind fun r7=>(bif r7 then(kk1 (decide ((List.length t1.a:Int)=(0:Int))))else(kk1 false)))else((types_name t1.n).bind fun r8=>(bif r8 then((ixS t1.n 0).bind fun c9=>(bif(!decide (c9=(39:Int)))then(kk1 (decide ((List.length t1.a:Int)<=(8:Int))))else(kk1 false)))else(kk1 false)))))):=
 aq c145 [.p .int,.p .int,.p .bool] (by kernel_rfl) rfl (by kernel_rfl) (by kernel_rfl)
def types_Check(t1:Ty):Option (Int):=ans X 115 (.p .int) [.v .ty t1]
def types_Check.j1(s3:Bool):Option (Int):=(bif s3 then some 10 else some 0)
theorem types_Check_eq(t1:Ty):types_Check t1=((types_measure t1).bind fun r2=>(jn (types_Check.j1) (fun kk1=>(bif(!r2.2.2)then(kk1 true)else(bif(decide ((500:Int)<r2.1))then(kk1 true)else(kk1 (decide ((200:Int)<r2.2.1)))))))):=
 aq c115 [.p .int] (by kernel_rfl) rfl (by kernel_rfl) (by kernel_rfl)
def terms_named(s1:ByteArray):Option (Bool):=ans X 162 (.p .bool) [.v .str s1]
theorem terms_named_eq(s1:ByteArray):terms_named s1=((types_Check (Ty.mk false s1 [])).bind fun r2=>some (decide (r2=(0:Int)))):=
 aq c162 [.p .bool] (by kernel_rfl) rfl (by kernel_rfl) (by kernel_rfl)
def types_rank(t1:Ty):Option (Int):=ans X 152 (.p .int) [.v .ty t1]
theorem types_rank_eq(t1:Ty):types_rank t1=(bif t1.v then some 0 else some 1):=
 aq c152 [.p .int] (by kernel_rfl) rfl (by kernel_rfl) (by kernel_rfl)
def isNaN_int(x1:Int):Option (Bool):=ans X 165 (.p .bool) [.v .int x1]
theorem isNaN_int_eq(x1:Int):isNaN_int x1=some (!decide (x1=x1)):=
 aq c165 [.p .bool] (by kernel_rfl) rfl (by kernel_rfl) (by kernel_rfl)
def cmp_int(x1:Int)(y2:Int):Option (Int):=ans X 139 (.p .int) [.v .int x1,.v .int y2]
theorem cmp_int_eq(x1:Int)(y2:Int):cmp_int x1 y2=((isNaN_int x1).bind fun r3=>((isNaN_int y2).bind fun r4=>(bif r3 then(bif r4 then some 0 else some (-1))else(bif r4 then some 1 else(bif(decide (x1<y2))then some (-1)else(bif(decide (y2<x1))then some 1 else some 0)))))):=
 aq c139 [.p .int] (by kernel_rfl) rfl (by kernel_rfl) (by kernel_rfl)
def cmpS(a1:ByteArray)(b2:ByteArray):Option (Int):=ans X 164 (.p .int) [.v .str a1,.v .str b2]
theorem cmpS_eq(a1:ByteArray)(b2:ByteArray):cmpS a1 b2=dcR (.p .int:Sh G) (pCmp [] [.v .str a1,.v .str b2]):=ans_prim (by kernel_rfl)
def strings_Compare(a1:ByteArray)(b2:ByteArray):Option (Int):=ans X 137 (.p .int) [.v .str a1,.v .str b2]
theorem strings_Compare_eq(a1:ByteArray)(b2:ByteArray):strings_Compare a1 b2=((cmpS a1 b2).bind fun r3=>some r3):=
 aq c137 [.p .int] (by kernel_rfl) rfl (by kernel_rfl) (by kernel_rfl)
def cmp_Or(vals1:(List Int)):Option (Int):=ans X 138 (.p .int) [.v .lint vals1]
def cmp_Or.s1(vals1:(List Int))(s2:Int)(next1:(Int)->Option (Int)):Option (Int):=(bif(decide (s2<(List.length vals1:Int)))then((ixL vals1 s2).bind fun e3=>(bif(!decide (e3=(0:Int)))then some e3 else(next1 (s2+1))))else some 0)
theorem cmp_Or_eq(vals1:(List Int)):cmp_Or vals1=(loopN (cmp_Or.s1 vals1) 0):=
 aq c138 [.p .int] (by kernel_rfl) rfl (by kernel_rfl) (by kernel_rfl)
def CompareFunc_ty(s11:(List Ty))(s22:(List Ty))(cmp3:Nat):Option (Int):=ans X 153 (.p .int) [.v .lty s11,.v .lty s22,.fn cmp3 [] []]
def CompareFunc_ty.s1(s11:(List Ty))(s22:(List Ty))(cmp3:Nat)(s4:Int)(next1:(Int)->Option (Int)):Option (Int):=(bif(decide (s4<(List.length s11:Int)))then((ixL s11 s4).bind fun e5=>(bif(decide ((List.length s22:Int)<=s4))then some 1 else((ixL s22 s4).bind fun e6=>((tyo Int (ans X cmp3 (.p .int) [.v .ty e5,.v .ty e6])).bind fun r7=>(bif(!decide (r7=(0:Int)))then some r7 else(next1 (s4+1)))))))else(bif(decide ((List.length s11:Int)<(List.length s22:Int)))then some (-1)else some 0))
theorem CompareFunc_ty_eq(s11:(List Ty))(s22:(List Ty))(cmp3:Nat):CompareFunc_ty s11 s22 cmp3=(loopN (CompareFunc_ty.s1 s11 s22 cmp3) 0):=
 aq c153 [.p .int] (by kernel_rfl) rfl (by kernel_rfl) (by kernel_rfl)
def types_Compare(a1:Ty)(b2:Ty):Option (Int):=ans X 123 (.p .int) [.v .ty a1,.v .ty b2]
theorem types_Compare_eq(a1:Ty)(b2:Ty):types_Compare a1 b2=((types_rank a1).bind fun r3=>((types_rank b2).bind fun r4=>((cmp_int r3 r4).bind fun r5=>((strings_Compare a1.n b2.n).bind fun r6=>((cmp_int (List.length a1.a:Int) (List.length b2.a:Int)).bind fun r7=>((cmp_Or [r5,r6,r7]).bind fun r8=>(bif(!decide (r8=(0:Int)))then some r8 else((CompareFunc_ty a1.a b2.a 123).bind fun r9=>some r9)))))))):=
 aq c123 [.p .int] (by kernel_rfl) rfl (by kernel_rfl) (by kernel_rfl)
def types_Same(a1:Ty)(b2:Ty):Option (Bool):=ans X 90 (.p .bool) [.v .ty a1,.v .ty b2]
theorem types_Same_eq(a1:Ty)(b2:Ty):types_Same a1 b2=((types_Compare a1 b2).bind fun r3=>some (decide (r3=(0:Int)))):=
 aq c90 [.p .bool] (by kernel_rfl) rfl (by kernel_rfl) (by kernel_rfl)
def terms_formed(x1:Tm)(x2:(List Ty)):Option (Ty×Bool):=ans X 135 (.tup [.p .ty,.p .bool]) [.v .tm x1,.v .lty x2]
def terms_formed.j2(x2:(List Ty))(x1:Tm)(s7:Bool):Option (Ty×Bool):=(bif s7 then some ((Ty.mk false (⟨#[]⟩:ByteArray) []),false)else((ixL x2 (IntKind.i64.wrap ((IntKind.i64.wrap ((List.length x2:Int)-1))-x1.i))).bind fun e8=>some (e8,true)))
def terms_formed.j4(r12:Ty×Bool)(s15:Bool):Option (Ty×Bool):=(bif s15 then some ((Ty.mk false (⟨#[]⟩:ByteArray) []),false)else((ixL r12.1.a 1).bind fun e16=>some (e16,true)))
def terms_formed.j3(x1:Tm)(x2:(List Ty))(s10:Bool):Option (Ty×Bool):=(bif s10 then some ((Ty.mk false (⟨#[]⟩:ByteArray) []),false)else((ixL x1.s 0).bind fun e11=>((terms_formed e11 x2).bind fun r12=>((ixL x1.s 1).bind fun e13=>((terms_formed e13 x2).bind fun r14=>(jn (terms_formed.j4 r12) (fun kk4=>(bif(!r12.2)then(kk4 true)else(bif(!r14.2)then(kk4 true)else(bif r12.1.v then(kk4 true)else(bif(!decide (r12.1.n=(⟨#[102,117,110]⟩:ByteArray)))then(kk4 true)else(bif(!decide ((List.length r12.1.a:Int)=(2:Int)))then(kk4 true)else((ixL r12.1.a 0).bind fun e17=>((types_Same e17 r14.1).bind fun r18=>(kk4 (!r18))))))))))))))))
def terms_formed.j5(x1:Tm)(x2:(List Ty))(s20:Bool):Option (Ty×Bool):=(bif s20 then some ((Ty.mk false (⟨#[]⟩:ByteArray) []),false)else((ixL x1.s 0).bind fun e21=>((slcT x2 (List.length x2:Int) (List.length x2:Int)).bind fun l22=>(if List.length l22+List.length [x1.y]<=LIM then((terms_formed e21 (l22++[x1.y])).bind fun r23=>(bif(!r23.2)then some ((Ty.mk false (⟨#[]⟩:ByteArray) []),false)else((types_Check (Ty.mk false (⟨#[102,117,110]⟩:ByteArray) [x1.y,r23.1])).bind fun r24=>some ((Ty.mk false (⟨#[102,117,110]⟩:ByteArray) [x1.y,r23.1]),(decide (r24=(0:Int)))))))else none))))
def terms_formed.j1(x1:Tm)(x2:(List Ty))(s3:Bool):Option (Ty×Bool):=(bif s3 then((terms_plain x1 true true false).bind fun r4=>(bif r4 then((terms_named x1.n).bind fun r5=>(bif r5 then(bif(decide ((List.length x1.s:Int)=(0:Int)))then((types_Check x1.y).bind fun r6=>some (x1.y,(decide (r6=(0:Int)))))else some (x1.y,false))else some (x1.y,false)))else some (x1.y,false)))else(bif(decide (x1.k=(3:Int)))then(jn (terms_formed.j2 x2 x1) (fun kk2=>((terms_plain x1 false false true).bind fun r9=>(bif(!r9)then(kk2 true)else(bif(decide ((0:Int)<(List.length x1.s:Int)))then(kk2 true)else(bif(decide (x1.i<(0:Int)))then(kk2 true)else(kk2 (decide ((List.length x2:Int)<=x1.i)))))))))else(bif(decide (x1.k=(4:Int)))then(jn (terms_formed.j3 x1 x2) (fun kk3=>((terms_plain x1 false false false).bind fun r19=>(bif(!r19)then(kk3 true)else(kk3 (!decide ((List.length x1.s:Int)=(2:Int))))))))else(bif(decide (x1.k=(5:Int)))then(jn (terms_formed.j5 x1 x2) (fun kk5=>((terms_plain x1 true true false).bind fun r25=>(bif(!r25)then(kk5 true)else(bif(!decide ((List.length x1.s:Int)=(1:Int)))then(kk5 true)else((terms_named x1.n).bind fun r26=>(bif(!r26)then(kk5 true)else((types_Check x1.y).bind fun r27=>(kk5 (!decide (r27=(0:Int))))))))))))else some ((Ty.mk false (⟨#[]⟩:ByteArray) []),false)))))
theorem terms_formed_eq(x1:Tm)(x2:(List Ty)):terms_formed x1 x2=(jn (terms_formed.j1 x1 x2) (fun kk1=>(bif(decide (x1.k=(1:Int)))then(kk1 true)else(kk1 (decide (x1.k=(2:Int))))))):=
 aq c135 [.p .ty,.p .bool] (by kernel_rfl) rfl (by kernel_rfl) (by kernel_rfl)
def terms_typed(t1:Tm):Option (Ty×Int):=ans X 105 (.tup [.p .ty,.p .int]) [.v .tm t1]
theorem terms_typed_eq(t1:Tm):terms_typed t1=((terms_great t1).bind fun r2=>(bif r2 then some ((Ty.mk false (⟨#[]⟩:ByteArray) []),21)else((terms_formed t1 []).bind fun r3=>(bif(!r3.2)then some ((Ty.mk false (⟨#[]⟩:ByteArray) []),20)else some (r3.1,0))))):=
 aq c105 [.p .ty,.p .int] (by kernel_rfl) rfl (by kernel_rfl) (by kernel_rfl)
def terms_TypeOf(t1:Tm):Option (Ty×Int):=ans X 96 (.tup [.p .ty,.p .int]) [.v .tm t1]
theorem terms_TypeOf_eq(t1:Tm):terms_TypeOf t1=((terms_typed t1).bind fun r2=>((types_Twin r2.1).bind fun r3=>some (r3,r2.2))):=
 aq c96 [.p .ty,.p .int] (by kernel_rfl) rfl (by kernel_rfl) (by kernel_rfl)
def Index_Theory(s1:(List Stheory))(v2:Stheory):Option (Int):=ans X 117 (.p .int) [.v .ltheory s1,.v .theory v2]
def Index_Theory.s1(s1:(List Stheory))(v2:Stheory)(s3:Int)(next1:(Int)->Option (Int)):Option (Int):=(bif(decide (s3<(List.length s1:Int)))then((ixL s1 s3).bind fun e4=>(eq3 (eqC (C_theory v2) (C_theory e4)) (some s3) (next1 (s3+1)) (agree (some s3) (next1 (s3+1)))))else some (-1))
theorem Index_Theory_eq(s1:(List Stheory))(v2:Stheory):Index_Theory s1 v2=(loopN (Index_Theory.s1 s1 v2) 0):=
 aq c117 [.p .int] (by kernel_rfl) rfl (by kernel_rfl) (by kernel_rfl)
def Contains_Theory(s1:(List Stheory))(v2:Stheory):Option (Bool):=ans X 81 (.p .bool) [.v .ltheory s1,.v .theory v2]
theorem Contains_Theory_eq(s1:(List Stheory))(v2:Stheory):Contains_Theory s1 v2=((Index_Theory s1 v2).bind fun r3=>some (decide ((0:Int)<=r3))):=
 aq c81 [.p .bool] (by kernel_rfl) rfl (by kernel_rfl) (by kernel_rfl)
def kernel_zero_Theory(l1:(List Stheory)):Option (Bool):=ans X 40 (.p .bool) [.v .ltheory l1]
theorem kernel_zero_Theory_eq(l1:(List Stheory)):kernel_zero_Theory l1=((Contains_Theory l1 (Stheory.mk none)).bind fun r2=>some r2):=
 aq c40 [.p .bool] (by kernel_rfl) rfl (by kernel_rfl) (by kernel_rfl)
def kernel_node_has1(o1:Stypeop)(x2:Ty):Option (Bool):=ans X 182 (.p .bool) [.v .typeop o1,.ip (.v .ty x2) 0 []]
theorem kernel_node_has1_eq(o1:Stypeop)(x2:Ty):kernel_node_has1 o1 x2=some (decide (o1.name=x2.n)):=
 aq c182 [.p .bool] (by kernel_rfl) rfl (by kernel_rfl) (by kernel_rfl)
def IndexFunc_TypeOp(s1:(List Stypeop))(f2:Nat)(c3:Ty):Option (Int):=ans X 181 (.p .int) [.v .ltypeop s1,.fn f2 [] [.ip (.v .ty c3) 0 []]]
def IndexFunc_TypeOp.s1(s1:(List Stypeop))(f2:Nat)(c3:Ty)(s4:Int)(next1:(Int)->Option (Int)):Option (Int):=(bif(decide (s4<(List.length s1:Int)))then((ixL s1 s4).bind fun e5=>((tyo Bool (ans X f2 (.p .bool) [.v .typeop e5,.ip (.v .ty c3) 0 []])).bind fun r6=>(bif r6 then some s4 else(next1 (s4+1)))))else some (-1))
theorem IndexFunc_TypeOp_eq(s1:(List Stypeop))(f2:Nat)(c3:Ty):IndexFunc_TypeOp s1 f2 c3=(loopN (IndexFunc_TypeOp.s1 s1 f2 c3) 0):=
 aq c181 [.p .int] (by kernel_rfl) rfl (by kernel_rfl) (by kernel_rfl)
def kernel_node_has(x1:(Option Nnode))(u2:Ty):Option (Bool):=ans X 167 (.p .bool) [.v .pnode x1,.v .ty u2]
def kernel_node_has.s2(u2:Ty)(x1:(Option Nnode))(s6:Int)(next2:(Int)->Option (Bool)):Option (Bool):=(bif(decide (s6<(List.length u2.a:Int)))then((ixL u2.a s6).bind fun e7=>((kernel_node_has x1 e7).bind fun r8=>(bif(!r8)then some false else(next2 (s6+1)))))else some true)
def kernel_node_has.j1(u2:Ty)(x1:(Option Nnode))(s5:Bool):Option (Bool):=(bif s5 then some false else(loopN (kernel_node_has.s2 u2 x1) 0))
theorem kernel_node_has_eq(x1:(Option Nnode))(u2:Ty):kernel_node_has x1 u2=(bif u2.v then some true else(x1.bind fun p3=>((IndexFunc_TypeOp p3.sig.types 182 u2).bind fun r4=>(jn (kernel_node_has.j1 u2 x1) (fun kk1=>(bif(decide (r4<(0:Int)))then(kk1 true)else(x1.bind fun p9=>((ixL p9.sig.types r4).bind fun e10=>(kk1 (!decide (e10.arity=(List.length u2.a:Int)))))))))))):=
 aq c167 [.p .bool] (by kernel_rfl) rfl (by kernel_rfl) (by kernel_rfl)
def kernel_node_holds1(c1:Sconst)(x2:Tm):Option (Bool):=ans X 169 (.p .bool) [.v .const c1,.ip (.v .tm x2) 0 []]
theorem kernel_node_holds1_eq(c1:Sconst)(x2:Tm):kernel_node_holds1 c1 x2=some (decide (c1.name=x2.n)):=
 aq c169 [.p .bool] (by kernel_rfl) rfl (by kernel_rfl) (by kernel_rfl)
def IndexFunc_Const(s1:(List Sconst))(f2:Nat)(c3:Tm):Option (Int):=ans X 168 (.p .int) [.v .lconst s1,.fn f2 [] [.ip (.v .tm c3) 0 []]]
def IndexFunc_Const.s1(s1:(List Sconst))(f2:Nat)(c3:Tm)(s4:Int)(next1:(Int)->Option (Int)):Option (Int):=(bif(decide (s4<(List.length s1:Int)))then((ixL s1 s4).bind fun e5=>((tyo Bool (ans X f2 (.p .bool) [.v .const e5,.ip (.v .tm c3) 0 []])).bind fun r6=>(bif r6 then some s4 else(next1 (s4+1)))))else some (-1))
theorem IndexFunc_Const_eq(s1:(List Sconst))(f2:Nat)(c3:Tm):IndexFunc_Const s1 f2 c3=(loopN (IndexFunc_Const.s1 s1 f2 c3) 0):=
 aq c168 [.p .int] (by kernel_rfl) rfl (by kernel_rfl) (by kernel_rfl)
def IndexFunc_TypeBind(s1:(List Stypebind))(f2:Nat)(c3:ByteArray):Option (Int):=ans X 191 (.p .int) [.v .ltypebind s1,.fn f2 [] [.ip (.v .str c3) 0 []]]
def IndexFunc_TypeBind.s1(s1:(List Stypebind))(f2:Nat)(c3:ByteArray)(s4:Int)(next1:(Int)->Option (Int)):Option (Int):=(bif(decide (s4<(List.length s1:Int)))then((ixL s1 s4).bind fun e5=>((tyo Bool (ans X f2 (.p .bool) [.v .typebind e5,.ip (.v .str c3) 0 []])).bind fun r6=>(bif r6 then some s4 else(next1 (s4+1)))))else some (-1))
theorem IndexFunc_TypeBind_eq(s1:(List Stypebind))(f2:Nat)(c3:ByteArray):IndexFunc_TypeBind s1 f2 c3=(loopN (IndexFunc_TypeBind.s1 s1 f2 c3) 0):=
 aq c191 [.p .int] (by kernel_rfl) rfl (by kernel_rfl) (by kernel_rfl)
def IndexFunc_TypeBind0(s1:(List Stypebind))(f2:Nat):Option (Int):=ans X 191 (.p .int) [.v .ltypebind s1,.fn f2 [] []]
def IndexFunc_TypeBind0.s1(s1:(List Stypebind))(f2:Nat)(s3:Int)(next1:(Int)->Option (Int)):Option (Int):=(bif(decide (s3<(List.length s1:Int)))then((ixL s1 s3).bind fun e4=>((tyo Bool (ans X f2 (.p .bool) [.v .typebind e4])).bind fun r5=>(bif r5 then some s3 else(next1 (s3+1)))))else some (-1))
theorem IndexFunc_TypeBind0_eq(s1:(List Stypebind))(f2:Nat):IndexFunc_TypeBind0 s1 f2=(loopN (IndexFunc_TypeBind0.s1 s1 f2) 0):=
 aq c191 [.p .int] (by kernel_rfl) rfl (by kernel_rfl) (by kernel_rfl)
def ContainsFunc_TypeBind(s1:(List Stypebind))(f2:Nat):Option (Bool):=ans X 187 (.p .bool) [.v .ltypebind s1,.fn f2 [] []]
theorem ContainsFunc_TypeBind_eq(s1:(List Stypebind))(f2:Nat):ContainsFunc_TypeBind s1 f2=((IndexFunc_TypeBind0 s1 f2).bind fun r3=>some (decide ((0:Int)<=r3))):=
 aq c187 [.p .bool] (by kernel_rfl) rfl (by kernel_rfl) (by kernel_rfl)
def types_valid(s1:(List Stypebind)):Option (Bool):=ans X 183 (.p .bool) [.v .ltypebind s1]
theorem types_valid_eq(s1:(List Stypebind)):types_valid s1=((ContainsFunc_TypeBind s1 188).bind fun r2=>some (!r2)):=
 aq c183 [.p .bool] (by kernel_rfl) rfl (by kernel_rfl) (by kernel_rfl)
def types_find1(b1:Stypebind)(x2:ByteArray):Option (Bool):=ans X 192 (.p .bool) [.v .typebind b1,.ip (.v .str x2) 0 []]
theorem types_find1_eq(b1:Stypebind)(x2:ByteArray):types_find1 b1 x2=some (decide (b1.var=x2)):=
 aq c192 [.p .bool] (by kernel_rfl) rfl (by kernel_rfl) (by kernel_rfl)
def types_find(h1:(List Stypebind))(v2:ByteArray):Option ((List Stypebind)×Ty×Bool):=ansG X 10 189 ho189v10 rs189v10 [.row 198 .typebind h1] [.row 0,.v .str v2]
theorem types_find_eq(h1:(List Stypebind))(v2:ByteArray):types_find h1 v2=((IndexFunc_TypeBind h1 192 v2).bind fun r3=>(bif(decide (r3<(0:Int)))then some (h1,(Ty.mk false (⟨#[]⟩:ByteArray) []),false)else(if 0<=r3/\r3<(List.length h1:Int)then((h1[(Int.toNat r3)]?).bind fun e4=>some (h1,e4.type,true))else none))):=
 aqG (n:=1) (ho:=ho189v10) c189v10 [.p .ty,.p .bool] (by kernel_rfl) rfl (by kernel_rfl) ⟨fun _=>⟨_,_,rfl⟩,trivial⟩ (by kernel_rfl) (by kernel_rfl)
def types_match(h1:(List Stypebind))(x2:Ty)(x3:Ty):Option ((List Stypebind)×Bool):=ansG X 1 184 ho184v1 rs184v1 [.row 198 .typebind h1] [.v .ty x2,.v .ty x3,.row 0]
def types_match.s2(x3:Ty)(x2:Ty)(s8:Int×(List Stypebind))(next2:(Int×(List Stypebind))->Option ((List Stypebind)×Bool)):Option ((List Stypebind)×Bool):=(bif(decide (s8.1<(List.length x3.a:Int)))then((ixL x2.a s8.1).bind fun e9=>((ixL x3.a s8.1).bind fun e10=>((types_match s8.2 e9 e10).bind fun r11=>(bif(!r11.2)then some (([]:List Stypebind),false)else(next2 ((s8.1+1),r11.1))))))else some (s8.2,true))
def types_match.j1(x3:Ty)(x2:Ty)(s7:Bool×(List Stypebind)):Option ((List Stypebind)×Bool):=(bif s7.1 then some (([]:List Stypebind),false)else(loopN (types_match.s2 x3 x2) (0,s7.2)))
theorem types_match_eq(h1:(List Stypebind))(x2:Ty)(x3:Ty):types_match h1 x2 x3=(bif x2.v then((types_find h1 x2.n).bind fun r4=>(bif r4.2.2 then((types_Same r4.2.1 x3).bind fun r5=>some (r4.1,r5))else((types_Twin x3).bind fun r6=>(if List.length r4.1+List.length [(Stypebind.mk x2.n r6)]<=LIM then some ((r4.1++[(Stypebind.mk x2.n r6)]),true)else none))))else(jn (types_match.j1 x3 x2) (fun kk1=>(bif x3.v then(kk1 (true,h1))else(bif(!decide (x3.n=x2.n))then(kk1 (true,h1))else(kk1 ((!decide ((List.length x3.a:Int)=(List.length x2.a:Int))),h1))))))):=
 aqG (n:=1) (ho:=ho184v1) c184v1 [.row 0,.p .bool] (by kernel_rfl) rfl (by kernel_rfl) ⟨fun _=>⟨_,_,rfl⟩,trivial⟩ (by kernel_rfl) (by kernel_rfl)
def types_Match(pattern1:Ty)(t2:Ty)(s3:(List Stypebind)):Option ((List Stypebind)×Bool×Int):=ans X 170 (.tup [.p .ltypebind,.p .bool,.p .int]) [.v .ty pattern1,.v .ty t2,.v .ltypebind s3]
def types_Match.s2(s3:(List Stypebind))(pattern1:Ty)(t2:Ty)(s5:Int×(List Stypebind))(next2:(Int×(List Stypebind))->Option ((List Stypebind)×Bool×Int)):Option ((List Stypebind)×Bool×Int):=(bif(decide (s5.1<(List.length s3:Int)))then((ixL s3 s5.1).bind fun e6=>((types_Twin e6.type).bind fun r7=>(if List.length s5.2+List.length [(Stypebind.mk e6.var r7)]<=LIM then(next2 ((s5.1+1),(s5.2++[(Stypebind.mk e6.var r7)])))else none)))else((types_match s5.2 pattern1 t2).bind fun r8=>(bif(!r8.2)then some ([],false,0)else some (r8.1,true,0))))
def types_Match.j1(s3:(List Stypebind))(pattern1:Ty)(t2:Ty)(s4:Bool):Option ((List Stypebind)×Bool×Int):=(bif s4 then some ([],false,10)else(if 0<=(IntKind.i64.wrap ((List.length s3:Int)+1))/\Int.toNat (IntKind.i64.wrap ((List.length s3:Int)+1))<=LIM then(loopN (types_Match.s2 s3 pattern1 t2) (0,([]:List Stypebind)))else none))
theorem types_Match_eq(pattern1:Ty)(t2:Ty)(s3:(List Stypebind)):types_Match pattern1 t2 s3=(jn (types_Match.j1 s3 pattern1 t2) (fun kk1=>((types_Check pattern1).bind fun r9=>(bif(!decide (r9=(0:Int)))then(kk1 true)else((types_Check t2).bind fun r10=>(bif(!decide (r10=(0:Int)))then(kk1 true)else((types_valid s3).bind fun r11=>(kk1 (!r11))))))))):=
 aq c170 [.p .ltypebind,.p .bool,.p .int] (by kernel_rfl) rfl (by kernel_rfl) (by kernel_rfl)
def kernel_node_holds(x1:(Option Nnode))(x2:Tm):Option (Bool):=ans X 144 (.p .bool) [.v .pnode x1,.v .tm x2]
def kernel_node_holds.s4(x2:Tm)(x1:(Option Nnode))(s6:Int)(next4:(Int)->Option (Bool)):Option (Bool):=(bif(decide (s6<(List.length x2.s:Int)))then((ixL x2.s s6).bind fun e7=>((kernel_node_holds x1 e7).bind fun r8=>(bif(!r8)then some false else(next4 (s6+1)))))else some true)
def kernel_node_holds.j3(x2:Tm)(x1:(Option Nnode))(s5:Unit):Option (Bool):=(loopN (kernel_node_holds.s4 x2 x1) 0)
def kernel_node_holds.j2(x2:Tm)(x1:(Option Nnode))(s4:Bool):Option (Bool):=(bif s4 then some false else(jn (kernel_node_holds.j3 x2 x1) (fun kk3=>(bif(decide (x2.k=(2:Int)))then(x1.bind fun p9=>((IndexFunc_Const p9.sig.consts 169 x2).bind fun r10=>(bif(decide (r10<(0:Int)))then some false else(x1.bind fun p11=>((ixL p11.sig.consts r10).bind fun e12=>((types_Same e12.type x2.y).bind fun r13=>(bif(!r13)then((types_Match e12.type x2.y []).bind fun r14=>(bif(!r14.2.1)then some false else(kk3 ())))else(kk3 ()))))))))else(kk3 ())))))
def kernel_node_holds.j1(x2:Tm)(x1:(Option Nnode))(s3:Bool):Option (Bool):=(jn (kernel_node_holds.j2 x2 x1) (fun kk2=>(bif s3 then((kernel_node_has x1 x2.y).bind fun r15=>(kk2 (!r15)))else(kk2 false))))
theorem kernel_node_holds_eq(x1:(Option Nnode))(x2:Tm):kernel_node_holds x1 x2=(jn (kernel_node_holds.j1 x2 x1) (fun kk1=>(bif(decide (x2.k=(1:Int)))then(kk1 true)else(bif(decide (x2.k=(2:Int)))then(kk1 true)else(kk1 (decide (x2.k=(5:Int)))))))):=
 aq c144 [.p .bool] (by kernel_rfl) rfl (by kernel_rfl) (by kernel_rfl)
def kernel_over(x1:(Option Nnode))(l2:(List Tm)):Option (Int):=ans X 113 (.p .int) [.v .pnode x1,.v .ltm l2]
def kernel_over.s1(l2:(List Tm))(x1:(Option Nnode))(s3:Int)(next1:(Int)->Option (Int)):Option (Int):=(bif(decide (s3<(List.length l2:Int)))then((ixL l2 s3).bind fun e4=>((kernel_node_holds x1 e4).bind fun r5=>(bif(!r5)then some 40 else(next1 (s3+1)))))else some 0)
theorem kernel_over_eq(x1:(Option Nnode))(l2:(List Tm)):kernel_over x1 l2=(loopN (kernel_over.s1 l2 x1) 0):=
 aq c113 [.p .int] (by kernel_rfl) rfl (by kernel_rfl) (by kernel_rfl)
def kernel_known(th1:Stheory)(t2:Tm):Option (Ty×Int):=ans X 75 (.tup [.p .ty,.p .int]) [.v .theory th1,.v .tm t2]
theorem kernel_known_eq(th1:Stheory)(t2:Tm):kernel_known th1 t2=((terms_TypeOf t2).bind fun r3=>(bif(!decide (r3.2=(0:Int)))then some ((Ty.mk false (⟨#[]⟩:ByteArray) []),r3.2)else((kernel_zero_Theory [th1]).bind fun r4=>(bif r4 then some ((Ty.mk false (⟨#[]⟩:ByteArray) []),52)else((kernel_over th1.node [t2]).bind fun r5=>some (r3.1,r5)))))):=
 aq c75 [.p .ty,.p .int] (by kernel_rfl) rfl (by kernel_rfl) (by kernel_rfl)
def kernel_term(th1:Stheory)(t2:Tm):Option (Int):=ans X 71 (.p .int) [.v .theory th1,.v .tm t2]
theorem kernel_term_eq(th1:Stheory)(t2:Tm):kernel_term th1 t2=((kernel_known th1 t2).bind fun r3=>some r3.2):=
 aq c71 [.p .int] (by kernel_rfl) rfl (by kernel_rfl) (by kernel_rfl)
def kernel_isBool(t1:Tm):Option (Bool):=ans X 72 (.p .bool) [.v .tm t1]
theorem kernel_isBool_eq(t1:Tm):kernel_isBool t1=((terms_TypeOf t1).bind fun r2=>((types_Bool).bind fun r3=>((types_Same r2.1 r3).bind fun r4=>some r4))):=
 aq c72 [.p .bool] (by kernel_rfl) rfl (by kernel_rfl) (by kernel_rfl)
def terms_Twin(t1:Tm):Option (Tm):=ans X 73 (.p .tm) [.v .tm t1]
def terms_Twin.s2(t1:Tm)(s3:Int×ByteArray×Ty×Int×(List Tm))(s4:Int×(List Tm))(next2:(Int×(List Tm))->Option (Tm)):Option (Tm):=(bif(decide (s4.1<(List.length t1.s:Int)))then((ixL t1.s s4.1).bind fun e5=>((terms_Twin e5).bind fun r6=>(if 0<=s4.1/\s4.1<(List.length s4.2:Int)then(if(Int.toNat s4.1)<List.length s4.2 then(next2 ((s4.1+1),(List.set s4.2 (Int.toNat s4.1) r6)))else none)else none)))else some (Tm.mk s3.1 s3.2.1 s3.2.2.1 s3.2.2.2.1 s4.2))
def terms_Twin.j1(t1:Tm)(s3:Int×ByteArray×Ty×Int×(List Tm)):Option (Tm):=(loopN (terms_Twin.s2 t1 s3) (0,s3.2.2.2.2))
theorem terms_Twin_eq(t1:Tm):terms_Twin t1=((types_Twin t1.y).bind fun r2=>(jn (terms_Twin.j1 t1) (fun kk1=>(bif(decide ((0:Int)<(List.length t1.s:Int)))then(if 0<=(List.length t1.s:Int)/\Int.toNat (List.length t1.s:Int)<=LIM then(kk1 (t1.k,t1.n,r2,t1.i,(List.replicate (Int.toNat (List.length t1.s:Int)) (Tm.mk 0 (⟨#[]⟩:ByteArray) (Ty.mk false (⟨#[]⟩:ByteArray) []) 0 []))))else none)else(kk1 (t1.k,t1.n,r2,t1.i,[])))))):=
 aq c73 [.p .tm] (by kernel_rfl) rfl (by kernel_rfl) (by kernel_rfl)
def kernel_theorem(x1:(Option Nnode))(s2:Ssequent):Option (Sthm):=ans X 74 (.p .thm) [.v .pnode x1,.v .sequent s2]
theorem kernel_theorem_eq(x1:(Option Nnode))(s2:Ssequent):kernel_theorem x1 s2=some (Sthm.mk x1 (some s2)):=
 aq c74 [.p .thm] (by kernel_rfl) rfl (by kernel_rfl) (by kernel_rfl)
def kernel_Assume(th1:Stheory)(t2:Tm):Option (Sthm×Int):=ans X 34 (.tup [.p .thm,.p .int]) [.v .theory th1,.v .tm t2]
theorem kernel_Assume_eq(th1:Stheory)(t2:Tm):kernel_Assume th1 t2=((kernel_term th1 t2).bind fun r3=>(bif(!decide (r3=(0:Int)))then some ((Sthm.mk none none),r3)else((kernel_isBool t2).bind fun r4=>(bif(!r4)then some ((Sthm.mk none none),50)else((terms_Twin t2).bind fun r5=>((kernel_theorem th1.node (Ssequent.mk [r5] r5)).bind fun r6=>some (r6,0))))))):=
 aq c34 [.p .thm,.p .int] (by kernel_rfl) rfl (by kernel_rfl) (by kernel_rfl)
def ref02_sign(less1:Bool)(same2:Bool):Option (Int):=ans X 106 (.p .int) [.v .bool less1,.v .bool same2]
theorem ref02_sign_eq(less1:Bool)(same2:Bool):ref02_sign less1 same2=(bif same2 then some 0 else(bif less1 then some (-1)else some 1)):=
 aq c106 [.p .int] (by kernel_rfl) rfl (by kernel_rfl) (by kernel_rfl)
def ref01_Compare(a1:Ty)(b2:Ty):Option (Int):=ans X 107 (.p .int) [.v .ty a1,.v .ty b2]
def ref01_Compare.s1(a1:Ty)(b2:Ty)(s3:Int)(next1:(Int)->Option (Int)):Option (Int):=(bif(decide (s3<(List.length a1.a:Int)))then((ixL a1.a s3).bind fun e4=>((ixL b2.a s3).bind fun e5=>((ref01_Compare e4 e5).bind fun r6=>(bif(!decide (r6=(0:Int)))then some r6 else(next1 (s3+1))))))else some 0)
theorem ref01_Compare_eq(a1:Ty)(b2:Ty):ref01_Compare a1 b2=(bif(!(a1.v == b2.v))then(bif a1.v then some (-1)else some 1)else(bif(!decide (a1.n=b2.n))then(bif(blt a1.n b2.n)then some (-1)else some 1)else(bif(!decide ((List.length a1.a:Int)=(List.length b2.a:Int)))then(bif(decide ((List.length a1.a:Int)<(List.length b2.a:Int)))then some (-1)else some 1)else(loopN (ref01_Compare.s1 a1 b2) 0)))):=
 aq c107 [.p .int] (by kernel_rfl) rfl (by kernel_rfl) (by kernel_rfl)
def ref02_Compare(x1:Tm)(x2:Tm):Option (Int):=ans X 60 (.p .int) [.v .tm x1,.v .tm x2]
def ref02_Compare.j6(x1:Tm)(s8:Int×Int)(x2:Tm)(next5:(Int×Int)->Option (Int))(s9:Bool):Option (Int):=(bif s9 then((ixL x1.s s8.2).bind fun e10=>((ixL x2.s s8.2).bind fun e11=>((ref02_Compare e10 e11).bind fun r12=>(next5 (r12,(IntKind.i64.wrap (s8.2+1)))))))else some s8.1)
def ref02_Compare.s5(x1:Tm)(x2:Tm)(s8:Int×Int)(next5:(Int×Int)->Option (Int)):Option (Int):=(jn (ref02_Compare.j6 x1 s8 x2 next5) (fun kk6=>(bif(decide (s8.1=(0:Int)))then(kk6 (decide (s8.2<(List.length x1.s:Int))))else(kk6 false))))
def ref02_Compare.j4(x1:Tm)(x2:Tm)(s7:Int):Option (Int):=(loopN (ref02_Compare.s5 x1 x2) (s7,0))
def ref02_Compare.j3(x1:Tm)(x2:Tm)(s6:Int):Option (Int):=(jn (ref02_Compare.j4 x1 x2) (fun kk4=>(bif(decide (s6=(0:Int)))then((ref02_sign (decide ((List.length x1.s:Int)<(List.length x2.s:Int))) (decide ((List.length x1.s:Int)=(List.length x2.s:Int)))).bind fun r13=>(kk4 r13))else(kk4 s6))))
def ref02_Compare.j2(x1:Tm)(x2:Tm)(s5:Int):Option (Int):=(jn (ref02_Compare.j3 x1 x2) (fun kk3=>(bif(decide (s5=(0:Int)))then((ref02_sign (decide (x1.i<x2.i)) (decide (x1.i=x2.i))).bind fun r14=>(kk3 r14))else(kk3 s5))))
def ref02_Compare.j1(x1:Tm)(x2:Tm)(s4:Int):Option (Int):=(jn (ref02_Compare.j2 x1 x2) (fun kk2=>(bif(decide (s4=(0:Int)))then((ref01_Compare x1.y x2.y).bind fun r15=>(kk2 r15))else(kk2 s4))))
def ref02_Compare.j7(x1:Tm)(x2:Tm)(kk1:(Int)->Option (Int))(r3:Int)(s16:Bool):Option (Int):=(bif s16 then((ref02_sign (blt x1.n x2.n) (decide (x1.n=x2.n))).bind fun r17=>(kk1 r17))else(kk1 r3))
theorem ref02_Compare_eq(x1:Tm)(x2:Tm):ref02_Compare x1 x2=((ref02_sign (decide (x1.k<x2.k)) (decide (x1.k=x2.k))).bind fun r3=>(jn (ref02_Compare.j1 x1 x2) (fun kk1=>(jn (ref02_Compare.j7 x1 x2 kk1 r3) (fun kk7=>(bif(decide (r3=(0:Int)))then(kk7 (!decide (x1.k=(5:Int))))else(kk7 false))))))):=
 aq c60 [.p .int] (by kernel_rfl) rfl (by kernel_rfl) (by kernel_rfl)
def ref02_Same(a1:Tm)(b2:Tm):Option (Bool):=ans X 23 (.p .bool) [.v .tm a1,.v .tm b2]
theorem ref02_Same_eq(a1:Tm)(b2:Tm):ref02_Same a1 b2=((ref02_Compare a1 b2).bind fun r3=>some (decide (r3=(0:Int)))):=
 aq c23 [.p .bool] (by kernel_rfl) rfl (by kernel_rfl) (by kernel_rfl)
def kernel_comb(f1:Tm)(x2:Tm):Option (Tm):=ans X 91 (.p .tm) [.v .tm f1,.v .tm x2]
theorem kernel_comb_eq(f1:Tm)(x2:Tm):kernel_comb f1 x2=some (Tm.mk 4 (⟨#[]⟩:ByteArray) (Ty.mk false (⟨#[]⟩:ByteArray) []) 0 [f1,x2]):=
 aq c91 [.p .tm] (by kernel_rfl) rfl (by kernel_rfl) (by kernel_rfl)
def kernel_extent(t1:Tm):Option (Int×Int):=ans X 114 (.tup [.p .int,.p .int]) [.v .tm t1]
def kernel_extent.s1(t1:Tm)(s2:Int×Int×Int)(next1:(Int×Int×Int)->Option (Int×Int)):Option (Int×Int):=(bif(decide (s2.2.2<(List.length t1.s:Int)))then((ixL t1.s s2.2.2).bind fun e3=>((kernel_extent e3).bind fun r4=>(next1 ((IntKind.i64.wrap (s2.1+r4.1)),(max s2.2.1 r4.2),(s2.2.2+1)))))else some (s2.1,(IntKind.i64.wrap (s2.2.1+1))))
theorem kernel_extent_eq(t1:Tm):kernel_extent t1=(loopN (kernel_extent.s1 t1) (1,0,0)):=
 aq c114 [.p .int,.p .int] (by kernel_rfl) rfl (by kernel_rfl) (by kernel_rfl)
def kernel_equation(l1:Tm)(r2:Tm)(u3:Ty):Option (Tm×Int):=ans X 76 (.tup [.p .tm,.p .int]) [.v .tm l1,.v .tm r2,.v .ty u3]
def kernel_equation.j1(u3:Ty)(r4:Ty)(r6:Tm)(s8:Bool):Option (Tm×Int):=(bif s8 then some ((Tm.mk 0 (⟨#[]⟩:ByteArray) (Ty.mk false (⟨#[]⟩:ByteArray) []) 0 []),21)else((types_Check (Ty.mk false (⟨#[102,117,110]⟩:ByteArray) [u3,(Ty.mk false (⟨#[102,117,110]⟩:ByteArray) [u3,r4])])).bind fun r9=>(bif(!decide (r9=(0:Int)))then some ((Tm.mk 0 (⟨#[]⟩:ByteArray) (Ty.mk false (⟨#[]⟩:ByteArray) []) 0 []),20)else some (r6,0))))
theorem kernel_equation_eq(l1:Tm)(r2:Tm)(u3:Ty):kernel_equation l1 r2 u3=((types_Bool).bind fun r4=>((kernel_comb (Tm.mk 2 (⟨#[61]⟩:ByteArray) (Ty.mk false (⟨#[102,117,110]⟩:ByteArray) [u3,(Ty.mk false (⟨#[102,117,110]⟩:ByteArray) [u3,r4])]) 0 []) l1).bind fun r5=>((kernel_comb r5 r2).bind fun r6=>((kernel_extent r6).bind fun r7=>(jn (kernel_equation.j1 u3 r4 r6) (fun kk1=>(bif(decide ((32000:Int)<r7.1))then(kk1 true)else(kk1 (decide ((300:Int)<r7.2)))))))))):=
 aq c76 [.p .tm,.p .int] (by kernel_rfl) rfl (by kernel_rfl) (by kernel_rfl)
def kernel_Refl(th1:Stheory)(t2:Tm):Option (Sthm×Int):=ans X 35 (.tup [.p .thm,.p .int]) [.v .theory th1,.v .tm t2]
theorem kernel_Refl_eq(th1:Stheory)(t2:Tm):kernel_Refl th1 t2=((kernel_known th1 t2).bind fun r3=>(bif(!decide (r3.2=(0:Int)))then some ((Sthm.mk none none),r3.2)else((terms_Twin t2).bind fun r4=>((kernel_equation r4 r4 r3.1).bind fun r5=>(bif(!decide (r5.2=(0:Int)))then some ((Sthm.mk none none),r5.2)else((kernel_theorem th1.node (Ssequent.mk [] r5.1)).bind fun r6=>some (r6,0))))))):=
 aq c35 [.p .thm,.p .int] (by kernel_rfl) rfl (by kernel_rfl) (by kernel_rfl)
def Index_Thm(s1:(List Sthm))(v2:Sthm):Option (Int):=ans X 146 (.p .int) [.v .lthm s1,.v .thm v2]
def Index_Thm.s1(s1:(List Sthm))(v2:Sthm)(s3:Int)(next1:(Int)->Option (Int)):Option (Int):=(bif(decide (s3<(List.length s1:Int)))then((ixL s1 s3).bind fun e4=>(eq3 (eqC (C_thm v2) (C_thm e4)) (some s3) (next1 (s3+1)) (agree (some s3) (next1 (s3+1)))))else some (-1))
theorem Index_Thm_eq(s1:(List Sthm))(v2:Sthm):Index_Thm s1 v2=(loopN (Index_Thm.s1 s1 v2) 0):=
 aq c146 [.p .int] (by kernel_rfl) rfl (by kernel_rfl) (by kernel_rfl)
def Contains_Thm(s1:(List Sthm))(v2:Sthm):Option (Bool):=ans X 116 (.p .bool) [.v .lthm s1,.v .thm v2]
theorem Contains_Thm_eq(s1:(List Sthm))(v2:Sthm):Contains_Thm s1 v2=((Index_Thm s1 v2).bind fun r3=>some (decide ((0:Int)<=r3))):=
 aq c116 [.p .bool] (by kernel_rfl) rfl (by kernel_rfl) (by kernel_rfl)
def kernel_zero_Thm(l1:(List Sthm)):Option (Bool):=ans X 79 (.p .bool) [.v .lthm l1]
theorem kernel_zero_Thm_eq(l1:(List Sthm)):kernel_zero_Thm l1=((Contains_Thm l1 (Sthm.mk none none)).bind fun r2=>some r2):=
 aq c79 [.p .bool] (by kernel_rfl) rfl (by kernel_rfl) (by kernel_rfl)
def EqualFunc_Sequent(s11:(List Ssequent))(s22:(List Ssequent))(eq3:Nat):Option (Bool):=ans X 175 (.p .bool) [.v .lsequent s11,.v .lsequent s22,.fn eq3 [] []]
def EqualFunc_Sequent.s1(s11:(List Ssequent))(s22:(List Ssequent))(eq3:Nat)(s4:Int)(next1:(Int)->Option (Bool)):Option (Bool):=(bif(decide (s4<(List.length s11:Int)))then((ixL s11 s4).bind fun e5=>((ixL s22 s4).bind fun e6=>((tyo Bool (ans X eq3 (.p .bool) [.v .sequent e5,.v .sequent e6])).bind fun r7=>(bif(!r7)then some false else(next1 (s4+1))))))else some true)
theorem EqualFunc_Sequent_eq(s11:(List Ssequent))(s22:(List Ssequent))(eq3:Nat):EqualFunc_Sequent s11 s22 eq3=(bif(!decide ((List.length s11:Int)=(List.length s22:Int)))then some false else(loopN (EqualFunc_Sequent.s1 s11 s22 eq3) 0)):=
 aq c175 [.p .bool] (by kernel_rfl) rfl (by kernel_rfl) (by kernel_rfl)
def isNaN_u8(x1:Int):Option (Bool):=ans X 163 (.p .bool) [.v .u8 x1]
theorem isNaN_u8_eq(x1:Int):isNaN_u8 x1=some (!decide (x1=x1)):=
 aq c163 [.p .bool] (by kernel_rfl) rfl (by kernel_rfl) (by kernel_rfl)
def cmp_u8(x1:Int)(y2:Int):Option (Int):=ans X 136 (.p .int) [.v .u8 x1,.v .u8 y2]
theorem cmp_u8_eq(x1:Int)(y2:Int):cmp_u8 x1 y2=((isNaN_u8 x1).bind fun r3=>((isNaN_u8 y2).bind fun r4=>(bif r3 then(bif r4 then some 0 else some (-1))else(bif r4 then some 1 else(bif(decide (x1<y2))then some (-1)else(bif(decide (y2<x1))then some 1 else some 0)))))):=
 aq c136 [.p .int] (by kernel_rfl) rfl (by kernel_rfl) (by kernel_rfl)
def CompareFunc_tm(s11:(List Tm))(s22:(List Tm))(cmp3:Nat):Option (Int):=ans X 140 (.p .int) [.v .ltm s11,.v .ltm s22,.fn cmp3 [] []]
def CompareFunc_tm.s1(s11:(List Tm))(s22:(List Tm))(cmp3:Nat)(s4:Int)(next1:(Int)->Option (Int)):Option (Int):=(bif(decide (s4<(List.length s11:Int)))then((ixL s11 s4).bind fun e5=>(bif(decide ((List.length s22:Int)<=s4))then some 1 else((ixL s22 s4).bind fun e6=>((tyo Int (ans X cmp3 (.p .int) [.v .tm e5,.v .tm e6])).bind fun r7=>(bif(!decide (r7=(0:Int)))then some r7 else(next1 (s4+1)))))))else(bif(decide ((List.length s11:Int)<(List.length s22:Int)))then some (-1)else some 0))
theorem CompareFunc_tm_eq(s11:(List Tm))(s22:(List Tm))(cmp3:Nat):CompareFunc_tm s11 s22 cmp3=(loopN (CompareFunc_tm.s1 s11 s22 cmp3) 0):=
 aq c140 [.p .int] (by kernel_rfl) rfl (by kernel_rfl) (by kernel_rfl)
def terms_Compare(a1:Tm)(b2:Tm):Option (Int):=ans X 110 (.p .int) [.v .tm a1,.v .tm b2]
def terms_Compare.j1(r4:Int)(a1:Tm)(b2:Tm)(s5:Bool):Option (Int):=(bif s5 then some r4 else((types_Compare a1.y b2.y).bind fun r6=>((cmp_int a1.i b2.i).bind fun r7=>((cmp_int (List.length a1.s:Int) (List.length b2.s:Int)).bind fun r8=>((cmp_Or [r6,r7,r8]).bind fun r9=>(bif(!decide (r9=(0:Int)))then some r9 else((CompareFunc_tm a1.s b2.s 110).bind fun r10=>some r10)))))))
theorem terms_Compare_eq(a1:Tm)(b2:Tm):terms_Compare a1 b2=((cmp_u8 a1.k b2.k).bind fun r3=>(bif(!decide (r3=(0:Int)))then some r3 else((strings_Compare a1.n b2.n).bind fun r4=>(jn (terms_Compare.j1 r4 a1 b2) (fun kk1=>(bif(!decide (r4=(0:Int)))then(kk1 (!decide (a1.k=(5:Int))))else(kk1 false))))))):=
 aq c110 [.p .int] (by kernel_rfl) rfl (by kernel_rfl) (by kernel_rfl)
def terms_Same(a1:Tm)(b2:Tm):Option (Bool):=ans X 63 (.p .bool) [.v .tm a1,.v .tm b2]
theorem terms_Same_eq(a1:Tm)(b2:Tm):terms_Same a1 b2=((terms_Compare a1 b2).bind fun r3=>some (decide (r3=(0:Int)))):=
 aq c63 [.p .bool] (by kernel_rfl) rfl (by kernel_rfl) (by kernel_rfl)
def EqualFunc_tm(s11:(List Tm))(s22:(List Tm))(eq3:Nat):Option (Bool):=ans X 185 (.p .bool) [.v .ltm s11,.v .ltm s22,.fn eq3 [] []]
def EqualFunc_tm.s1(s11:(List Tm))(s22:(List Tm))(eq3:Nat)(s4:Int)(next1:(Int)->Option (Bool)):Option (Bool):=(bif(decide (s4<(List.length s11:Int)))then((ixL s11 s4).bind fun e5=>((ixL s22 s4).bind fun e6=>((tyo Bool (ans X eq3 (.p .bool) [.v .tm e5,.v .tm e6])).bind fun r7=>(bif(!r7)then some false else(next1 (s4+1))))))else some true)
def kernel_sameDecl(a1:Sdecl)(b2:Sdecl):Option (Bool):=ans X 151 (.p .bool) [.v .decl a1,.v .decl b2]
theorem kernel_sameDecl_eq(a1:Sdecl)(b2:Sdecl):kernel_sameDecl a1 b2=(bif(decide (a1.kind=b2.kind))then(bif(decide (a1.name=b2.name))then(bif(decide (a1.arity=b2.arity))then((types_Same a1.typ b2.typ).bind fun r3=>(bif r3 then((EqualFunc_Sequent a1.seqs b2.seqs 176).bind fun r4=>some r4)else some false))else some false)else some false)else some false):=
 aq c151 [.p .bool] (by kernel_rfl) rfl (by kernel_rfl) (by kernel_rfl)
def kernel_extends(a1:(Option Nnode))(b2:(Option Nnode)):Option (Bool):=ans X 122 (.p .bool) [.v .pnode a1,.v .pnode b2]
def kernel_extends.j5(p8:Nnode)(p9:Nnode)(next3:((Option Nnode)×(Option Nnode))->Option (Bool))(s10:Bool):Option (Bool):=(bif s10 then(bif neO (Option.map C_node p8.parent) (Option.map C_node p9.parent)then some false else bif Option.isNone p8.parent then some true else none)else(next3 (p8.parent,p9.parent)))
def kernel_extends.j4(s6:(Option Nnode)×(Option Nnode))(next3:((Option Nnode)×(Option Nnode))->Option (Bool))(s7:Bool):Option (Bool):=(bif s7 then some false else(s6.1.bind fun p8=>(s6.2.bind fun p9=>(jn (kernel_extends.j5 p8 p9 next3) (fun kk5=>(bif(Option.isNone p8.parent)then(kk5 true)else(kk5 (Option.isNone p9.parent))))))))
def kernel_extends.j7(p17:Nnode)(p18:Nnode)(next3:((Option Nnode)×(Option Nnode))->Option (Bool))(s19:Bool):Option (Bool):=(bif s19 then(bif neO (Option.map C_node p17.parent) (Option.map C_node p18.parent)then some false else bif Option.isNone p17.parent then some true else none)else(next3 (p17.parent,p18.parent)))
def kernel_extends.j6(s6:(Option Nnode)×(Option Nnode))(next3:((Option Nnode)×(Option Nnode))->Option (Bool))(s16:Bool):Option (Bool):=(bif s16 then some false else(s6.1.bind fun p17=>(s6.2.bind fun p18=>(jn (kernel_extends.j7 p17 p18 next3) (fun kk7=>(bif(Option.isNone p17.parent)then(kk7 true)else(kk7 (Option.isNone p18.parent))))))))
def kernel_extends.s3(s6:(Option Nnode)×(Option Nnode))(next3:((Option Nnode)×(Option Nnode))->Option (Bool)):Option (Bool):=(bif neO (Option.map C_node s6.1) (Option.map C_node s6.2)then(jn (kernel_extends.j4 s6 next3) (fun kk4=>(s6.1.bind fun p11=>(s6.2.bind fun p12=>(bif(!decide (p11.n=p12.n))then(kk4 true)else(s6.1.bind fun p13=>(s6.2.bind fun p14=>((kernel_sameDecl p13.decl p14.decl).bind fun r15=>(kk4 (!r15))))))))))else bif Option.isNone s6.1 then some true else(agree (jn (kernel_extends.j6 s6 next3) (fun kk6=>(s6.1.bind fun p20=>(s6.2.bind fun p21=>(bif(!decide (p20.n=p21.n))then(kk6 true)else(s6.1.bind fun p22=>(s6.2.bind fun p23=>((kernel_sameDecl p22.decl p23.decl).bind fun r24=>(kk6 (!r24)))))))))) (some true)))
def kernel_extends.j2(s3:(Option Nnode))(next1:((Option Nnode))->Option (Bool))(b2:(Option Nnode))(s4:Bool):Option (Bool):=(bif s4 then(s3.bind fun p5=>(next1 p5.parent))else(loopN (kernel_extends.s3) (s3,b2)))
def kernel_extends.s1(b2:(Option Nnode))(s3:(Option Nnode))(next1:((Option Nnode))->Option (Bool)):Option (Bool):=(jn (kernel_extends.j2 s3 next1 b2) (fun kk2=>(bif(Option.isSome s3)then(s3.bind fun p25=>(b2.bind fun p26=>(kk2 (decide (p26.n<p25.n)))))else(kk2 false))))
theorem kernel_extends_eq(a1:(Option Nnode))(b2:(Option Nnode)):kernel_extends a1 b2=(loopN (kernel_extends.s1 b2) a1):=
 aq c122 [.p .bool] (by kernel_rfl) rfl (by kernel_rfl) (by kernel_rfl)
def kernel_related(a1:Sthm)(b2:Sthm):Option ((Option Nnode)×Int):=ans X 88 (.tup [.p .pnode,.p .int]) [.v .thm a1,.v .thm b2]
theorem kernel_related_eq(a1:Sthm)(b2:Sthm):kernel_related a1 b2=((kernel_zero_Thm [a1,b2]).bind fun r3=>(bif r3 then some (none,52)else((kernel_extends a1.node b2.node).bind fun r4=>(bif r4 then some (a1.node,0)else((kernel_extends b2.node a1.node).bind fun r5=>(bif r5 then some (b2.node,0)else some (none,52))))))):=
 aq c88 [.p .pnode,.p .int] (by kernel_rfl) rfl (by kernel_rfl) (by kernel_rfl)
def Clone_tmo(s1:(List Tm)):Option ((List Tm)):=ansG X 1 142 ho142v1 rs142v1 [] [.v .ltm s1]
theorem Clone_tmo_eq(s1:(List Tm)):Clone_tmo s1=(bif List.isEmpty s1 then(agree (some []) (if List.length ([]:List Tm)+List.length s1<=LIM then some (([]:List Tm)++s1)else none))else(if List.length ([]:List Tm)+List.length s1<=LIM then some (([]:List Tm)++s1)else none)):=
 aqG (n:=0) (ho:=ho142v1) c142v1 [.row 0] (by kernel_rfl) rfl (by kernel_rfl) ⟨fun _=>⟨_,_,rfl⟩,trivial⟩ (by kernel_rfl) (by kernel_rfl)
def kernel_without1(h1:Tm)(x2:Tm):Option (Bool):=ans X 143 (.p .bool) [.v .tm h1,.ip (.v .tm x2) 0 []]
theorem kernel_without1_eq(h1:Tm)(x2:Tm):kernel_without1 h1 x2=((terms_Same h1 x2).bind fun r3=>some r3):=
 aq c143 [.p .bool] (by kernel_rfl) rfl (by kernel_rfl) (by kernel_rfl)
def IndexFunc_tm(s1:(List Tm))(f2:Nat)(c3:Tm):Option (Int):=ans X 166 (.p .int) [.v .ltm s1,.fn f2 [] [.ip (.v .tm c3) 0 []]]
def IndexFunc_tm.s1(s1:(List Tm))(f2:Nat)(c3:Tm)(s4:Int)(next1:(Int)->Option (Int)):Option (Int):=(bif(decide (s4<(List.length s1:Int)))then((ixL s1 s4).bind fun e5=>((tyo Bool (ans X f2 (.p .bool) [.v .tm e5,.ip (.v .tm c3) 0 []])).bind fun r6=>(bif r6 then some s4 else(next1 (s4+1)))))else some (-1))
theorem IndexFunc_tm_eq(s1:(List Tm))(f2:Nat)(c3:Tm):IndexFunc_tm s1 f2 c3=(loopN (IndexFunc_tm.s1 s1 f2 c3) 0):=
 aq c166 [.p .int] (by kernel_rfl) rfl (by kernel_rfl) (by kernel_rfl)
def DeleteFunc_tm(h1:(List Tm))(del2:Tm):Option ((List Tm)):=ansG X 1 141 ho141v1 rs141v1 [.row 27 .tm h1] [.row 0,.fn 143 [] [.ip (.v .tm del2) 0 []]]
def DeleteFunc_tm.j2(next1:(Int×Int×(List Tm))->Option ((List Tm)))(s4:Int×Int×(List Tm))(s5:Int×(List Tm)):Option ((List Tm)):=(next1 (s5.1,(s4.2.1+1),s5.2))
def DeleteFunc_tm.s1(del2:Tm)(s4:Int×Int×(List Tm))(next1:(Int×Int×(List Tm))->Option ((List Tm))):Option ((List Tm)):=(bif(decide (s4.2.1<(List.length s4.2.2:Int)))then(jn (DeleteFunc_tm.j2 next1 s4) (fun kk2=>(if 0<=s4.2.1/\s4.2.1<(List.length s4.2.2:Int)then((s4.2.2[(Int.toNat s4.2.1)]?).bind fun e6=>((kernel_without1 e6 del2).bind fun r7=>(bif(!r7)then(if 0<=s4.1/\s4.1<(List.length s4.2.2:Int)then(if(Int.toNat s4.1)<List.length s4.2.2 then(kk2 ((IntKind.i64.wrap (s4.1+1)),(List.set s4.2.2 (Int.toNat s4.1) e6)))else none)else none)else(kk2 (s4.1,s4.2.2)))))else none)))else(if 0<=s4.1/\s4.1<=(List.length s4.2.2:Int)/\(List.length s4.2.2:Int)<=(List.length s4.2.2:Int)/\(List.length s4.2.2:Int)<=(List.length s4.2.2:Int)then(if(Int.toNat s4.1)+(Int.toNat (List.length s4.2.2:Int)-Int.toNat s4.1)<=List.length s4.2.2 then(if 0<=(0:Int)/\(0:Int)<=s4.1/\s4.1<=(List.length (List.take (Int.toNat s4.1) s4.2.2++List.replicate (Int.toNat (List.length s4.2.2:Int)-Int.toNat s4.1) (Tm.mk 0 (⟨#[]⟩:ByteArray) (Ty.mk false (⟨#[]⟩:ByteArray) []) 0 [])++List.drop ((Int.toNat s4.1)+(Int.toNat (List.length s4.2.2:Int)-Int.toNat s4.1)) s4.2.2):Int)/\(List.length (List.take (Int.toNat s4.1) s4.2.2++List.replicate (Int.toNat (List.length s4.2.2:Int)-Int.toNat s4.1) (Tm.mk 0 (⟨#[]⟩:ByteArray) (Ty.mk false (⟨#[]⟩:ByteArray) []) 0 [])++List.drop ((Int.toNat s4.1)+(Int.toNat (List.length s4.2.2:Int)-Int.toNat s4.1)) s4.2.2):Int)<=(List.length (List.take (Int.toNat s4.1) s4.2.2++List.replicate (Int.toNat (List.length s4.2.2:Int)-Int.toNat s4.1) (Tm.mk 0 (⟨#[]⟩:ByteArray) (Ty.mk false (⟨#[]⟩:ByteArray) []) 0 [])++List.drop ((Int.toNat s4.1)+(Int.toNat (List.length s4.2.2:Int)-Int.toNat s4.1)) s4.2.2):Int)then(if(Int.toNat s4.1-0)<=List.length (List.take (Int.toNat s4.1) s4.2.2++List.replicate (Int.toNat (List.length s4.2.2:Int)-Int.toNat s4.1) (Tm.mk 0 (⟨#[]⟩:ByteArray) (Ty.mk false (⟨#[]⟩:ByteArray) []) 0 [])++List.drop ((Int.toNat s4.1)+(Int.toNat (List.length s4.2.2:Int)-Int.toNat s4.1)) s4.2.2)then some (List.take (Int.toNat s4.1-0) (List.take (Int.toNat s4.1) s4.2.2++List.replicate (Int.toNat (List.length s4.2.2:Int)-Int.toNat s4.1) (Tm.mk 0 (⟨#[]⟩:ByteArray) (Ty.mk false (⟨#[]⟩:ByteArray) []) 0 [])++List.drop ((Int.toNat s4.1)+(Int.toNat (List.length s4.2.2:Int)-Int.toNat s4.1)) s4.2.2))else none)else none)else none)else none))
theorem DeleteFunc_tm_eq(h1:(List Tm))(del2:Tm):DeleteFunc_tm h1 del2=((IndexFunc_tm h1 143 del2).bind fun r3=>(bif(decide (r3=(-1)))then some h1 else(loopN (DeleteFunc_tm.s1 del2) (r3,(IntKind.i64.wrap (r3+1)),h1)))):=
 aqG (n:=1) (ho:=ho141v1) c141v1 [.row 0] (by kernel_rfl) rfl (by kernel_rfl) ⟨fun _=>⟨_,_,rfl⟩,trivial⟩ (by kernel_rfl) (by kernel_rfl)
def kernel_without(l1:(List Tm))(t2:Tm):Option ((List Tm)):=ans X 111 (.p .ltm) [.v .ltm l1,.v .tm t2]
theorem kernel_without_eq(l1:(List Tm))(t2:Tm):kernel_without l1 t2=((Clone_tmo l1).bind fun r3=>((DeleteFunc_tm r3 t2).bind fun r4=>some r4)):=
 aq c111 [.p .ltm] (by kernel_rfl) rfl (by kernel_rfl) (by kernel_rfl)
def Grow_tm(n1:Int):Option ((List Tm)):=ansG X 1 154 ho154v1 rs154v1 [] [.ns .tm,.v .int n1]
def Grow_tm.j2(s3:(List Tm)):Option ((List Tm)):=some s3
def Grow_tm.j1(n1:Int)(s2:Unit):Option ((List Tm)):=(jn (Grow_tm.j2) (fun kk2=>(bif(decide ((0:Int)<(IntKind.i64.wrap (n1-(IntKind.i64.wrap (0-0))))))then(if 0<(IntKind.i64.wrap (n1-(IntKind.i64.wrap (0-0))))/\Int.toNat (IntKind.i64.wrap (n1-(IntKind.i64.wrap (0-0))))<=LIM then(if 0<=(0:Int)/\(0:Int)<=(0:Int)/\(0:Int)<=(List.length (List.replicate (Int.toNat (IntKind.i64.wrap (n1-(IntKind.i64.wrap (0-0))))) (Tm.mk 0 (⟨#[]⟩:ByteArray) (Ty.mk false (⟨#[]⟩:ByteArray) []) 0 [])):Int)/\(List.length (List.replicate (Int.toNat (IntKind.i64.wrap (n1-(IntKind.i64.wrap (0-0))))) (Tm.mk 0 (⟨#[]⟩:ByteArray) (Ty.mk false (⟨#[]⟩:ByteArray) []) 0 [])):Int)<=(List.length (List.replicate (Int.toNat (IntKind.i64.wrap (n1-(IntKind.i64.wrap (0-0))))) (Tm.mk 0 (⟨#[]⟩:ByteArray) (Ty.mk false (⟨#[]⟩:ByteArray) []) 0 [])):Int)then(if(Int.toNat 0-0)<=List.length (List.replicate (Int.toNat (IntKind.i64.wrap (n1-(IntKind.i64.wrap (0-0))))) (Tm.mk 0 (⟨#[]⟩:ByteArray) (Ty.mk false (⟨#[]⟩:ByteArray) []) 0 []))then(kk2 (List.take (Int.toNat 0-0) (List.replicate (Int.toNat (IntKind.i64.wrap (n1-(IntKind.i64.wrap (0-0))))) (Tm.mk 0 (⟨#[]⟩:ByteArray) (Ty.mk false (⟨#[]⟩:ByteArray) []) 0 []))))else none)else none)else none)else(kk2 []))))
theorem Grow_tm_eq(n1:Int):Grow_tm n1=(jn (Grow_tm.j1 n1) (fun kk1=>(bif(decide (n1<(0:Int)))then none else(kk1 ())))):=
 aqG (n:=0) (ho:=ho154v1) c154v1 [.row 0] (by kernel_rfl) rfl (by kernel_rfl) ⟨fun _=>⟨_,_,rfl⟩,trivial⟩ (by kernel_rfl) (by kernel_rfl)
def Concat_tm(slices1:(List (List Tm))):Option ((List Tm)):=ansG X 1 124 ho124v1 rs124v1 [] [.v .lltm slices1]
def Concat_tm.j2(next1:(Int×Int)->Option ((List Tm)))(s2:Int×Int)(s3:Int):Option ((List Tm)):=(next1 (s3,(s2.2+1)))
def Concat_tm.s3(slices1:(List (List Tm)))(s6:Int×(List Tm))(next3:(Int×(List Tm))->Option ((List Tm))):Option ((List Tm)):=(bif(decide (s6.1<(List.length slices1:Int)))then((ixL slices1 s6.1).bind fun e7=>(if List.length s6.2+List.length e7<=LIM then(next3 ((s6.1+1),(s6.2++e7)))else none))else some s6.2)
def Concat_tm.s1(slices1:(List (List Tm)))(s2:Int×Int)(next1:(Int×Int)->Option ((List Tm))):Option ((List Tm)):=(bif(decide (s2.2<(List.length slices1:Int)))then(jn (Concat_tm.j2 next1 s2) (fun kk2=>((ixL slices1 s2.2).bind fun e4=>(bif(decide ((IntKind.i64.wrap (s2.1+(List.length e4:Int)))<(0:Int)))then none else(kk2 (IntKind.i64.wrap (s2.1+(List.length e4:Int))))))))else((Grow_tm s2.1).bind fun r5=>(loopN (Concat_tm.s3 slices1) (0,r5))))
theorem Concat_tm_eq(slices1:(List (List Tm))):Concat_tm slices1=(loopN (Concat_tm.s1 slices1) (0,0)):=
 aqG (n:=0) (ho:=ho124v1) c124v1 [.row 0] (by kernel_rfl) rfl (by kernel_rfl) ⟨fun _=>⟨_,_,rfl⟩,trivial⟩ (by kernel_rfl) (by kernel_rfl)
def insSort_tm(h1:(List Tm))(a2:Int)(b3:Int):Option ((List Tm)):=ansG X 10 177 ho177v10 rs177v10 [.row 27 .tm h1] [.row 0,.v .int a2,.v .int b3,.fn 110 [] []]
def insSort_tm.j3(s5:Int×(List Tm))(next2:(Int×(List Tm))->Option ((List Tm)))(next1:(Int×(List Tm))->Option ((List Tm)))(s4:Int×(List Tm))(s6:Bool×(List Tm)):Option ((List Tm)):=(bif s6.1 then(if 0<=(IntKind.i64.wrap (s5.1-1))/\(IntKind.i64.wrap (s5.1-1))<(List.length s6.2:Int)then((s6.2[(Int.toNat (IntKind.i64.wrap (s5.1-1)))]?).bind fun e7=>(if 0<=s5.1/\s5.1<(List.length s6.2:Int)then((s6.2[(Int.toNat s5.1)]?).bind fun e8=>(if 0<=s5.1/\s5.1<(List.length s6.2:Int)then(if(Int.toNat s5.1)<List.length s6.2 then(if 0<=(IntKind.i64.wrap (s5.1-1))/\(IntKind.i64.wrap (s5.1-1))<(List.length (List.set s6.2 (Int.toNat s5.1) e7):Int)then(if(Int.toNat (IntKind.i64.wrap (s5.1-1)))<List.length (List.set s6.2 (Int.toNat s5.1) e7)then(next2 ((IntKind.i64.wrap (s5.1-1)),(List.set (List.set s6.2 (Int.toNat s5.1) e7) (Int.toNat (IntKind.i64.wrap (s5.1-1))) e8)))else none)else none)else none)else none))else none))else none)else(next1 ((s4.1+1),s6.2)))
def insSort_tm.s2(next1:(Int×(List Tm))->Option ((List Tm)))(s4:Int×(List Tm))(a2:Int)(s5:Int×(List Tm))(next2:(Int×(List Tm))->Option ((List Tm))):Option ((List Tm)):=(jn (insSort_tm.j3 s5 next2 next1 s4) (fun kk3=>(bif(decide (a2<s5.1))then(if 0<=s5.1/\s5.1<(List.length s5.2:Int)then((s5.2[(Int.toNat s5.1)]?).bind fun e9=>(if 0<=(IntKind.i64.wrap (s5.1-1))/\(IntKind.i64.wrap (s5.1-1))<(List.length s5.2:Int)then((s5.2[(Int.toNat (IntKind.i64.wrap (s5.1-1)))]?).bind fun e10=>((terms_Compare e9 e10).bind fun r11=>(kk3 ((decide (r11<(0:Int))),s5.2))))else none))else none)else(kk3 (false,s5.2)))))
def insSort_tm.s1(b3:Int)(a2:Int)(s4:Int×(List Tm))(next1:(Int×(List Tm))->Option ((List Tm))):Option ((List Tm)):=(bif(decide (s4.1<b3))then(loopN (insSort_tm.s2 next1 s4 a2) (s4.1,s4.2))else some s4.2)
theorem insSort_tm_eq(h1:(List Tm))(a2:Int)(b3:Int):insSort_tm h1 a2 b3=(loopN (insSort_tm.s1 b3 a2) ((IntKind.i64.wrap (a2+1)),h1)):=
 aqG (n:=1) (ho:=ho177v10) c177v10 [] (by kernel_rfl) rfl (by kernel_rfl) ⟨fun _=>⟨_,_,rfl⟩,trivial⟩ (by kernel_rfl) (by kernel_rfl)
def swapRange_tm(h1:(List Tm))(a2:Int)(b3:Int)(n4:Int):Option ((List Tm)):=ansG X 10 190 ho190v10 rs190v10 [.row 27 .tm h1] [.row 0,.v .int a2,.v .int b3,.v .int n4,.fn 110 [] []]
def swapRange_tm.s1(n4:Int)(b3:Int)(a2:Int)(s5:Int×(List Tm))(next1:(Int×(List Tm))->Option ((List Tm))):Option ((List Tm)):=(bif(decide (s5.1<n4))then(if 0<=(IntKind.i64.wrap (b3+s5.1))/\(IntKind.i64.wrap (b3+s5.1))<(List.length s5.2:Int)then((s5.2[(Int.toNat (IntKind.i64.wrap (b3+s5.1)))]?).bind fun e6=>(if 0<=(IntKind.i64.wrap (a2+s5.1))/\(IntKind.i64.wrap (a2+s5.1))<(List.length s5.2:Int)then((s5.2[(Int.toNat (IntKind.i64.wrap (a2+s5.1)))]?).bind fun e7=>(if 0<=(IntKind.i64.wrap (a2+s5.1))/\(IntKind.i64.wrap (a2+s5.1))<(List.length s5.2:Int)then(if(Int.toNat (IntKind.i64.wrap (a2+s5.1)))<List.length s5.2 then(if 0<=(IntKind.i64.wrap (b3+s5.1))/\(IntKind.i64.wrap (b3+s5.1))<(List.length (List.set s5.2 (Int.toNat (IntKind.i64.wrap (a2+s5.1))) e6):Int)then(if(Int.toNat (IntKind.i64.wrap (b3+s5.1)))<List.length (List.set s5.2 (Int.toNat (IntKind.i64.wrap (a2+s5.1))) e6)then(next1 ((s5.1+1),(List.set (List.set s5.2 (Int.toNat (IntKind.i64.wrap (a2+s5.1))) e6) (Int.toNat (IntKind.i64.wrap (b3+s5.1))) e7)))else none)else none)else none)else none))else none))else none)else some s5.2)
theorem swapRange_tm_eq(h1:(List Tm))(a2:Int)(b3:Int)(n4:Int):swapRange_tm h1 a2 b3 n4=(loopN (swapRange_tm.s1 n4 b3 a2) (0,h1)):=
 aqG (n:=1) (ho:=ho190v10) c190v10 [] (by kernel_rfl) rfl (by kernel_rfl) ⟨fun _=>⟨_,_,rfl⟩,trivial⟩ (by kernel_rfl) (by kernel_rfl)
def rotate_tm(h1:(List Tm))(a2:Int)(m3:Int)(b4:Int):Option ((List Tm)):=ansG X 10 186 ho186v10 rs186v10 [.row 27 .tm h1] [.row 0,.v .int a2,.v .int m3,.v .int b4,.fn 110 [] []]
def rotate_tm.s1(m3:Int)(s5:Int×Int×(List Tm))(next1:(Int×Int×(List Tm))->Option ((List Tm))):Option ((List Tm)):=(bif(!decide (s5.1=s5.2.1))then(bif(decide (s5.2.1<s5.1))then((swapRange_tm s5.2.2 (IntKind.i64.wrap (m3-s5.1)) m3 s5.2.1).bind fun r6=>(next1 ((IntKind.i64.wrap (s5.1-s5.2.1)),s5.2.1,r6)))else((swapRange_tm s5.2.2 (IntKind.i64.wrap (m3-s5.1)) (IntKind.i64.wrap ((IntKind.i64.wrap (m3+s5.2.1))-s5.1)) s5.1).bind fun r7=>(next1 (s5.1,(IntKind.i64.wrap (s5.2.1-s5.1)),r7))))else((swapRange_tm s5.2.2 (IntKind.i64.wrap (m3-s5.1)) m3 s5.1).bind fun r8=>some r8))
theorem rotate_tm_eq(h1:(List Tm))(a2:Int)(m3:Int)(b4:Int):rotate_tm h1 a2 m3 b4=(loopN (rotate_tm.s1 m3) ((IntKind.i64.wrap (m3-a2)),(IntKind.i64.wrap (b4-m3)),h1)):=
 aqG (n:=1) (ho:=ho186v10) c186v10 [] (by kernel_rfl) rfl (by kernel_rfl) ⟨fun _=>⟨_,_,rfl⟩,trivial⟩ (by kernel_rfl) (by kernel_rfl)
def symMerge_tm(h1:(List Tm))(x2:Int)(x3:Int)(x4:Int):Option ((List Tm)):=ansG X 10 178 ho178v10 rs178v10 [.row 27 .tm h1] [.row 0,.v .int x2,.v .int x3,.v .int x4,.fn 110 [] []]
def symMerge_tm.s2(s5:Int×Int×(List Tm))(s9:Int×(List Tm))(next2:(Int×(List Tm))->Option ((List Tm))):Option ((List Tm)):=(bif(decide (s9.1<(IntKind.i64.wrap (s5.1-1))))then(if 0<=(s9.1+1)/\(s9.1+1)<(List.length s9.2:Int)then((s9.2[(Int.toNat (s9.1+1))]?).bind fun e10=>(if 0<=s9.1/\s9.1<(List.length s9.2:Int)then((s9.2[(Int.toNat s9.1)]?).bind fun e11=>(if 0<=s9.1/\s9.1<(List.length s9.2:Int)then(if(Int.toNat s9.1)<List.length s9.2 then(if 0<=(s9.1+1)/\(s9.1+1)<(List.length (List.set s9.2 (Int.toNat s9.1) e10):Int)then(if(Int.toNat (s9.1+1))<List.length (List.set s9.2 (Int.toNat s9.1) e10)then(next2 ((s9.1+1),(List.set (List.set s9.2 (Int.toNat s9.1) e10) (Int.toNat (s9.1+1)) e11)))else none)else none)else none)else none))else none))else none)else some s9.2)
def symMerge_tm.s1(x2:Int)(s5:Int×Int×(List Tm))(next1:(Int×Int×(List Tm))->Option ((List Tm))):Option ((List Tm)):=(bif(decide (s5.1<s5.2.1))then(if 0<=(IntKind.i64.wrap ((IntKind.u64.wrap (IntKind.i64.wrap (s5.1+s5.2.1))) / 2))/\(IntKind.i64.wrap ((IntKind.u64.wrap (IntKind.i64.wrap (s5.1+s5.2.1))) / 2))<(List.length s5.2.2:Int)then((s5.2.2[(Int.toNat (IntKind.i64.wrap ((IntKind.u64.wrap (IntKind.i64.wrap (s5.1+s5.2.1))) / 2)))]?).bind fun e6=>(if 0<=x2/\x2<(List.length s5.2.2:Int)then((s5.2.2[(Int.toNat x2)]?).bind fun e7=>((terms_Compare e6 e7).bind fun r8=>(bif(decide (r8<(0:Int)))then(next1 ((IntKind.i64.wrap ((IntKind.i64.wrap ((IntKind.u64.wrap (IntKind.i64.wrap (s5.1+s5.2.1))) / 2))+1)),s5.2.1,s5.2.2))else(next1 (s5.1,(IntKind.i64.wrap ((IntKind.u64.wrap (IntKind.i64.wrap (s5.1+s5.2.1))) / 2)),s5.2.2)))))else none))else none)else(loopN (symMerge_tm.s2 s5) (x2,s5.2.2)))
def symMerge_tm.s4(s12:Int×Int×(List Tm))(s16:Int×(List Tm))(next4:(Int×(List Tm))->Option ((List Tm))):Option ((List Tm)):=(bif(decide (s12.1<s16.1))then(if 0<=(IntKind.i64.wrap (s16.1-1))/\(IntKind.i64.wrap (s16.1-1))<(List.length s16.2:Int)then((s16.2[(Int.toNat (IntKind.i64.wrap (s16.1-1)))]?).bind fun e17=>(if 0<=s16.1/\s16.1<(List.length s16.2:Int)then((s16.2[(Int.toNat s16.1)]?).bind fun e18=>(if 0<=s16.1/\s16.1<(List.length s16.2:Int)then(if(Int.toNat s16.1)<List.length s16.2 then(if 0<=(IntKind.i64.wrap (s16.1-1))/\(IntKind.i64.wrap (s16.1-1))<(List.length (List.set s16.2 (Int.toNat s16.1) e17):Int)then(if(Int.toNat (IntKind.i64.wrap (s16.1-1)))<List.length (List.set s16.2 (Int.toNat s16.1) e17)then(next4 ((IntKind.i64.wrap (s16.1-1)),(List.set (List.set s16.2 (Int.toNat s16.1) e17) (Int.toNat (IntKind.i64.wrap (s16.1-1))) e18)))else none)else none)else none)else none))else none))else none)else some s16.2)
def symMerge_tm.s3(x3:Int)(s12:Int×Int×(List Tm))(next3:(Int×Int×(List Tm))->Option ((List Tm))):Option ((List Tm)):=(bif(decide (s12.1<s12.2.1))then(if 0<=x3/\x3<(List.length s12.2.2:Int)then((s12.2.2[(Int.toNat x3)]?).bind fun e13=>(if 0<=(IntKind.i64.wrap ((IntKind.u64.wrap (IntKind.i64.wrap (s12.1+s12.2.1))) / 2))/\(IntKind.i64.wrap ((IntKind.u64.wrap (IntKind.i64.wrap (s12.1+s12.2.1))) / 2))<(List.length s12.2.2:Int)then((s12.2.2[(Int.toNat (IntKind.i64.wrap ((IntKind.u64.wrap (IntKind.i64.wrap (s12.1+s12.2.1))) / 2)))]?).bind fun e14=>((terms_Compare e13 e14).bind fun r15=>(bif(!(decide (r15<(0:Int))))then(next3 ((IntKind.i64.wrap ((IntKind.i64.wrap ((IntKind.u64.wrap (IntKind.i64.wrap (s12.1+s12.2.1))) / 2))+1)),s12.2.1,s12.2.2))else(next3 (s12.1,(IntKind.i64.wrap ((IntKind.u64.wrap (IntKind.i64.wrap (s12.1+s12.2.1))) / 2)),s12.2.2)))))else none))else none)else(loopN (symMerge_tm.s4 s12) (x3,s12.2.2)))
def symMerge_tm.j9(x2:Int)(x4:Int)(x3:Int)(s20:Int×Int×(List Tm))(s26:Bool×(List Tm)):Option ((List Tm)):=(bif s26.1 then((symMerge_tm s26.2 (IntKind.i64.wrap ((IntKind.u64.wrap (IntKind.i64.wrap (x2+x4))) / 2)) (IntKind.i64.wrap ((IntKind.i64.wrap ((IntKind.i64.wrap ((IntKind.u64.wrap (IntKind.i64.wrap (x2+x4))) / 2))+x3))-s20.1)) x4).bind fun r27=>some r27)else some s26.2)
def symMerge_tm.j8(x2:Int)(x4:Int)(x3:Int)(s20:Int×Int×(List Tm))(s25:(List Tm)):Option ((List Tm)):=(jn (symMerge_tm.j9 x2 x4 x3 s20) (fun kk9=>(bif(decide ((IntKind.i64.wrap ((IntKind.u64.wrap (IntKind.i64.wrap (x2+x4))) / 2))<(IntKind.i64.wrap ((IntKind.i64.wrap ((IntKind.i64.wrap ((IntKind.u64.wrap (IntKind.i64.wrap (x2+x4))) / 2))+x3))-s20.1))))then(kk9 ((decide ((IntKind.i64.wrap ((IntKind.i64.wrap ((IntKind.i64.wrap ((IntKind.u64.wrap (IntKind.i64.wrap (x2+x4))) / 2))+x3))-s20.1))<x4)),s25))else(kk9 (false,s25)))))
def symMerge_tm.j10(x2:Int)(s20:Int×Int×(List Tm))(x4:Int)(kk8:((List Tm))->Option ((List Tm)))(s28:Bool×(List Tm)):Option ((List Tm)):=(bif s28.1 then((symMerge_tm s28.2 x2 s20.1 (IntKind.i64.wrap ((IntKind.u64.wrap (IntKind.i64.wrap (x2+x4))) / 2))).bind fun r29=>(kk8 r29))else(kk8 s28.2))
def symMerge_tm.j7(x2:Int)(x4:Int)(x3:Int)(s20:Int×Int×(List Tm))(s24:(List Tm)):Option ((List Tm)):=(jn (symMerge_tm.j8 x2 x4 x3 s20) (fun kk8=>(jn (symMerge_tm.j10 x2 s20 x4 kk8) (fun kk10=>(bif(decide (x2<s20.1))then(kk10 ((decide (s20.1<(IntKind.i64.wrap ((IntKind.u64.wrap (IntKind.i64.wrap (x2+x4))) / 2)))),s24))else(kk10 (false,s24)))))))
def symMerge_tm.j11(s20:Int×Int×(List Tm))(x3:Int)(x2:Int)(x4:Int)(kk7:((List Tm))->Option ((List Tm)))(s30:Bool×(List Tm)):Option ((List Tm)):=(bif s30.1 then((rotate_tm s30.2 s20.1 x3 (IntKind.i64.wrap ((IntKind.i64.wrap ((IntKind.i64.wrap ((IntKind.u64.wrap (IntKind.i64.wrap (x2+x4))) / 2))+x3))-s20.1))).bind fun r31=>(kk7 r31))else(kk7 s30.2))
def symMerge_tm.s6(x2:Int)(x4:Int)(x3:Int)(s20:Int×Int×(List Tm))(next6:(Int×Int×(List Tm))->Option ((List Tm))):Option ((List Tm)):=(bif(decide (s20.1<s20.2.1))then(if 0<=(IntKind.i64.wrap ((IntKind.i64.wrap ((IntKind.i64.wrap ((IntKind.i64.wrap ((IntKind.u64.wrap (IntKind.i64.wrap (x2+x4))) / 2))+x3))-1))-(IntKind.i64.wrap ((IntKind.u64.wrap (IntKind.i64.wrap (s20.1+s20.2.1))) / 2))))/\(IntKind.i64.wrap ((IntKind.i64.wrap ((IntKind.i64.wrap ((IntKind.i64.wrap ((IntKind.u64.wrap (IntKind.i64.wrap (x2+x4))) / 2))+x3))-1))-(IntKind.i64.wrap ((IntKind.u64.wrap (IntKind.i64.wrap (s20.1+s20.2.1))) / 2))))<(List.length s20.2.2:Int)then((s20.2.2[(Int.toNat (IntKind.i64.wrap ((IntKind.i64.wrap ((IntKind.i64.wrap ((IntKind.i64.wrap ((IntKind.u64.wrap (IntKind.i64.wrap (x2+x4))) / 2))+x3))-1))-(IntKind.i64.wrap ((IntKind.u64.wrap (IntKind.i64.wrap (s20.1+s20.2.1))) / 2)))))]?).bind fun e21=>(if 0<=(IntKind.i64.wrap ((IntKind.u64.wrap (IntKind.i64.wrap (s20.1+s20.2.1))) / 2))/\(IntKind.i64.wrap ((IntKind.u64.wrap (IntKind.i64.wrap (s20.1+s20.2.1))) / 2))<(List.length s20.2.2:Int)then((s20.2.2[(Int.toNat (IntKind.i64.wrap ((IntKind.u64.wrap (IntKind.i64.wrap (s20.1+s20.2.1))) / 2)))]?).bind fun e22=>((terms_Compare e21 e22).bind fun r23=>(bif(!(decide (r23<(0:Int))))then(next6 ((IntKind.i64.wrap ((IntKind.i64.wrap ((IntKind.u64.wrap (IntKind.i64.wrap (s20.1+s20.2.1))) / 2))+1)),s20.2.1,s20.2.2))else(next6 (s20.1,(IntKind.i64.wrap ((IntKind.u64.wrap (IntKind.i64.wrap (s20.1+s20.2.1))) / 2)),s20.2.2)))))else none))else none)else(jn (symMerge_tm.j7 x2 x4 x3 s20) (fun kk7=>(jn (symMerge_tm.j11 s20 x3 x2 x4 kk7) (fun kk11=>(bif(decide (s20.1<x3))then(kk11 ((decide (x3<(IntKind.i64.wrap ((IntKind.i64.wrap ((IntKind.i64.wrap ((IntKind.u64.wrap (IntKind.i64.wrap (x2+x4))) / 2))+x3))-s20.1)))),s20.2.2))else(kk11 (false,s20.2.2))))))))
def symMerge_tm.j5(x2:Int)(x4:Int)(x3:Int)(s19:Int×Int×(List Tm)):Option ((List Tm)):=(loopN (symMerge_tm.s6 x2 x4 x3) (s19.1,s19.2.1,s19.2.2))
theorem symMerge_tm_eq(h1:(List Tm))(x2:Int)(x3:Int)(x4:Int):symMerge_tm h1 x2 x3 x4=(bif(decide ((IntKind.i64.wrap (x3-x2))=(1:Int)))then(loopN (symMerge_tm.s1 x2) (x3,x4,h1))else(bif(decide ((IntKind.i64.wrap (x4-x3))=(1:Int)))then(loopN (symMerge_tm.s3 x3) (x2,x3,h1))else(jn (symMerge_tm.j5 x2 x4 x3) (fun kk5=>(bif(decide ((IntKind.i64.wrap ((IntKind.u64.wrap (IntKind.i64.wrap (x2+x4))) / 2))<x3))then(kk5 ((IntKind.i64.wrap ((IntKind.i64.wrap ((IntKind.i64.wrap ((IntKind.u64.wrap (IntKind.i64.wrap (x2+x4))) / 2))+x3))-x4)),(IntKind.i64.wrap ((IntKind.u64.wrap (IntKind.i64.wrap (x2+x4))) / 2)),h1))else(kk5 (x2,x3,h1))))))):=
 aqG (n:=1) (ho:=ho178v10) c178v10 [] (by kernel_rfl) rfl (by kernel_rfl) ⟨fun _=>⟨_,_,rfl⟩,trivial⟩ (by kernel_rfl) (by kernel_rfl)
def stable_tm(h1:(List Tm))(n2:Int):Option ((List Tm)):=ansG X 10 155 ho155v10 rs155v10 [.row 27 .tm h1] [.row 0,.v .int n2,.fn 110 [] []]
def stable_tm.j4(next2:(Int×(List Tm))->Option ((List Tm)))(s6:Int×(List Tm))(s9:(List Tm)):Option ((List Tm)):=(next2 ((IntKind.i64.wrap (s6.1 * 2)),s9))
def stable_tm.s3(n2:Int)(s6:Int×(List Tm))(next2:(Int×(List Tm))->Option ((List Tm)))(s7:Int×Int×(List Tm))(next3:(Int×Int×(List Tm))->Option ((List Tm))):Option ((List Tm)):=(bif(decide (s7.2.1<=n2))then((symMerge_tm s7.2.2 s7.1 (IntKind.i64.wrap (s7.1+s6.1)) s7.2.1).bind fun r8=>(next3 (s7.2.1,(IntKind.i64.wrap (s7.2.1+(IntKind.i64.wrap (2 * s6.1)))),r8)))else(jn (stable_tm.j4 next2 s6) (fun kk4=>(bif(decide ((IntKind.i64.wrap (s7.1+s6.1))<n2))then((symMerge_tm s7.2.2 s7.1 (IntKind.i64.wrap (s7.1+s6.1)) n2).bind fun r10=>(kk4 r10))else(kk4 s7.2.2)))))
def stable_tm.s2(n2:Int)(s6:Int×(List Tm))(next2:(Int×(List Tm))->Option ((List Tm))):Option ((List Tm)):=(bif(decide (s6.1<n2))then(loopN (stable_tm.s3 n2 s6 next2) (0,(IntKind.i64.wrap (2 * s6.1)),s6.2))else some s6.2)
def stable_tm.s1(n2:Int)(s3:Int×Int×(List Tm))(next1:(Int×Int×(List Tm))->Option ((List Tm))):Option ((List Tm)):=(bif(decide (s3.2.1<=n2))then((insSort_tm s3.2.2 s3.1 s3.2.1).bind fun r4=>(next1 (s3.2.1,(IntKind.i64.wrap (s3.2.1+20)),r4)))else((insSort_tm s3.2.2 s3.1 n2).bind fun r5=>(loopN (stable_tm.s2 n2) (20,r5))))
theorem stable_tm_eq(h1:(List Tm))(n2:Int):stable_tm h1 n2=(loopN (stable_tm.s1 n2) (0,20,h1)):=
 aqG (n:=1) (ho:=ho155v10) c155v10 [] (by kernel_rfl) rfl (by kernel_rfl) ⟨fun _=>⟨_,_,rfl⟩,trivial⟩ (by kernel_rfl) (by kernel_rfl)
def SortStable_tm(h1:(List Tm)):Option ((List Tm)):=ansG X 10 125 ho125v10 rs125v10 [.row 27 .tm h1] [.row 0,.fn 110 [] []]
theorem SortStable_tm_eq(h1:(List Tm)):SortStable_tm h1=((stable_tm h1 (List.length h1:Int)).bind fun r2=>some r2):=
 aqG (n:=1) (ho:=ho125v10) c125v10 [] (by kernel_rfl) rfl (by kernel_rfl) ⟨fun _=>⟨_,_,rfl⟩,trivial⟩ (by kernel_rfl) (by kernel_rfl)
def CompactFunc_tm(h1:(List Tm)):Option ((List Tm)):=ansG X 1 126 ho126v1 rs126v1 [.row 27 .tm h1] [.row 0,.fn 63 [] []]
def CompactFunc_tm.j3(next2:(Int×Nat×Nat×Int×(List Tm))->Option ((List Tm)))(s6:Int×Nat×Nat×Int×(List Tm))(s7:Int×Nat×Nat×(List Tm)):Option ((List Tm)):=(next2 (s7.1,s7.2.1,s7.2.2.1,(s6.2.2.2.1+1),s7.2.2.2))
def CompactFunc_tm.s2(s6:Int×Nat×Nat×Int×(List Tm))(next2:(Int×Nat×Nat×Int×(List Tm))->Option ((List Tm))):Option ((List Tm)):=(bif(decide (s6.2.2.2.1<((s6.2.2.1:Nat):Int)))then(jn (CompactFunc_tm.j3 next2 s6) (fun kk3=>(if 0<=s6.2.2.2.1/\s6.2.2.2.1<((s6.2.2.1:Nat):Int)then((s6.2.2.2.2[(s6.2.1+Int.toNat s6.2.2.2.1)]?).bind fun e8=>(if 0<=(IntKind.i64.wrap (s6.2.2.2.1-1))/\(IntKind.i64.wrap (s6.2.2.2.1-1))<((s6.2.2.1:Nat):Int)then((s6.2.2.2.2[(s6.2.1+Int.toNat (IntKind.i64.wrap (s6.2.2.2.1-1)))]?).bind fun e9=>((terms_Same e8 e9).bind fun r10=>(bif(!r10)then(if 0<=s6.2.2.2.1/\s6.2.2.2.1<((s6.2.2.1:Nat):Int)then((s6.2.2.2.2[(s6.2.1+Int.toNat s6.2.2.2.1)]?).bind fun e11=>(if 0<=s6.1/\s6.1<(List.length s6.2.2.2.2:Int)then(if(Int.toNat s6.1)<List.length s6.2.2.2.2 then(kk3 ((IntKind.i64.wrap (s6.1+1)),s6.2.1,s6.2.2.1,(List.set s6.2.2.2.2 (Int.toNat s6.1) e11)))else none)else none))else none)else(kk3 (s6.1,s6.2.1,s6.2.2.1,s6.2.2.2.2)))))else none))else none)))else(if 0<=s6.1/\s6.1<=(List.length s6.2.2.2.2:Int)/\(List.length s6.2.2.2.2:Int)<=(List.length s6.2.2.2.2:Int)/\(List.length s6.2.2.2.2:Int)<=(List.length s6.2.2.2.2:Int)then(if(Int.toNat s6.1)+(Int.toNat (List.length s6.2.2.2.2:Int)-Int.toNat s6.1)<=List.length s6.2.2.2.2 then(if 0<=(0:Int)/\(0:Int)<=s6.1/\s6.1<=(List.length (List.take (Int.toNat s6.1) s6.2.2.2.2++List.replicate (Int.toNat (List.length s6.2.2.2.2:Int)-Int.toNat s6.1) (Tm.mk 0 (⟨#[]⟩:ByteArray) (Ty.mk false (⟨#[]⟩:ByteArray) []) 0 [])++List.drop ((Int.toNat s6.1)+(Int.toNat (List.length s6.2.2.2.2:Int)-Int.toNat s6.1)) s6.2.2.2.2):Int)/\(List.length (List.take (Int.toNat s6.1) s6.2.2.2.2++List.replicate (Int.toNat (List.length s6.2.2.2.2:Int)-Int.toNat s6.1) (Tm.mk 0 (⟨#[]⟩:ByteArray) (Ty.mk false (⟨#[]⟩:ByteArray) []) 0 [])++List.drop ((Int.toNat s6.1)+(Int.toNat (List.length s6.2.2.2.2:Int)-Int.toNat s6.1)) s6.2.2.2.2):Int)<=(List.length (List.take (Int.toNat s6.1) s6.2.2.2.2++List.replicate (Int.toNat (List.length s6.2.2.2.2:Int)-Int.toNat s6.1) (Tm.mk 0 (⟨#[]⟩:ByteArray) (Ty.mk false (⟨#[]⟩:ByteArray) []) 0 [])++List.drop ((Int.toNat s6.1)+(Int.toNat (List.length s6.2.2.2.2:Int)-Int.toNat s6.1)) s6.2.2.2.2):Int)then(if(Int.toNat s6.1-0)<=List.length (List.take (Int.toNat s6.1) s6.2.2.2.2++List.replicate (Int.toNat (List.length s6.2.2.2.2:Int)-Int.toNat s6.1) (Tm.mk 0 (⟨#[]⟩:ByteArray) (Ty.mk false (⟨#[]⟩:ByteArray) []) 0 [])++List.drop ((Int.toNat s6.1)+(Int.toNat (List.length s6.2.2.2.2:Int)-Int.toNat s6.1)) s6.2.2.2.2)then some (List.take (Int.toNat s6.1-0) (List.take (Int.toNat s6.1) s6.2.2.2.2++List.replicate (Int.toNat (List.length s6.2.2.2.2:Int)-Int.toNat s6.1) (Tm.mk 0 (⟨#[]⟩:ByteArray) (Ty.mk false (⟨#[]⟩:ByteArray) []) 0 [])++List.drop ((Int.toNat s6.1)+(Int.toNat (List.length s6.2.2.2.2:Int)-Int.toNat s6.1)) s6.2.2.2.2))else none)else none)else none)else none))
def CompactFunc_tm.s1(s2:Int×(List Tm))(next1:(Int×(List Tm))->Option ((List Tm))):Option ((List Tm)):=(bif(decide (s2.1<(List.length s2.2:Int)))then(if 0<=s2.1/\s2.1<(List.length s2.2:Int)then((s2.2[(Int.toNat s2.1)]?).bind fun e3=>(if 0<=(IntKind.i64.wrap (s2.1-1))/\(IntKind.i64.wrap (s2.1-1))<(List.length s2.2:Int)then((s2.2[(Int.toNat (IntKind.i64.wrap (s2.1-1)))]?).bind fun e4=>((terms_Same e3 e4).bind fun r5=>(bif r5 then(if 0<=s2.1/\s2.1<=(List.length s2.2:Int)/\(List.length s2.2:Int)<=(List.length s2.2:Int)/\(List.length s2.2:Int)<=(List.length s2.2:Int)then(loopN (CompactFunc_tm.s2) (s2.1,(Int.toNat s2.1),(Int.toNat (List.length s2.2:Int)-Int.toNat s2.1),1,s2.2))else none)else(next1 ((s2.1+1),s2.2)))))else none))else none)else some s2.2)
theorem CompactFunc_tm_eq(h1:(List Tm)):CompactFunc_tm h1=(bif(decide ((List.length h1:Int)<(2:Int)))then some h1 else(loopN (CompactFunc_tm.s1) (1,h1))):=
 aqG (n:=1) (ho:=ho126v1) c126v1 [.row 0] (by kernel_rfl) rfl (by kernel_rfl) ⟨fun _=>⟨_,_,rfl⟩,trivial⟩ (by kernel_rfl) (by kernel_rfl)
def kernel_union(l1:(List (List Tm))):Option ((List Tm)):=ans X 93 (.p .ltm) [.v .lltm l1]
theorem kernel_union_eq(l1:(List (List Tm))):kernel_union l1=((Concat_tm l1).bind fun r2=>((SortStable_tm r2).bind fun r3=>((CompactFunc_tm r3).bind fun r4=>some r4))):=
 aq c93 [.p .ltm] (by kernel_rfl) rfl (by kernel_rfl) (by kernel_rfl)
def kernel_done(x1:(Option Nnode))(hyps2:(List Tm))(concl3:Tm)(e4:Int):Option (Sthm×Int):=ans X 92 (.tup [.p .thm,.p .int]) [.v .pnode x1,.v .ltm hyps2,.v .tm concl3,.v .int e4]
theorem kernel_done_eq(x1:(Option Nnode))(hyps2:(List Tm))(concl3:Tm)(e4:Int):kernel_done x1 hyps2 concl3 e4=(bif(decide ((64:Int)<(List.length hyps2:Int)))then some ((Sthm.mk none none),4)else(bif(!decide (e4=(0:Int)))then some ((Sthm.mk none none),e4)else((kernel_theorem x1 (Ssequent.mk hyps2 concl3)).bind fun r5=>some (r5,0)))):=
 aq c92 [.p .thm,.p .int] (by kernel_rfl) rfl (by kernel_rfl) (by kernel_rfl)
def kernel_Deduct(a1:Sthm)(b2:Sthm):Option (Sthm×Int):=ans X 65 (.tup [.p .thm,.p .int]) [.v .thm a1,.v .thm b2]
def kernel_Deduct.j1(a1:Sthm)(b2:Sthm)(r3:(Option Nnode)×Int)(s4:Sthm×Tm×Tm):Option (Sthm×Int):=((types_Bool).bind fun r5=>((kernel_equation s4.2.1 s4.2.2 r5).bind fun r6=>(a1.seq.bind fun p7=>((kernel_without p7.hyps s4.2.2).bind fun r8=>(b2.seq.bind fun p9=>((kernel_without p9.hyps s4.2.1).bind fun r10=>((kernel_union [r8,r10]).bind fun r11=>((kernel_done r3.1 r11 r6.1 r6.2).bind fun r12=>some (r12.1,r12.2)))))))))
theorem kernel_Deduct_eq(a1:Sthm)(b2:Sthm):kernel_Deduct a1 b2=((kernel_related a1 b2).bind fun r3=>(bif(!decide (r3.2=(0:Int)))then some ((Sthm.mk none none),r3.2)else(jn (kernel_Deduct.j1 a1 b2 r3) (fun kk1=>(agree (a1.seq.bind fun p13=>(b2.seq.bind fun p14=>(kk1 ((Sthm.mk none none),p13.concl,p14.concl)))) (a1.seq.bind fun p15=>(b2.seq.bind fun p16=>(kk1 ((Sthm.mk none none),p15.concl,p16.concl))))))))):=
 aq c65 [.p .thm,.p .int] (by kernel_rfl) rfl (by kernel_rfl) (by kernel_rfl)
def kernel_sides(t1:Tm):Option (Tm×Tm×Ty×Bool):=ans X 89 (.tup [.p .tm,.p .tm,.p .ty,.p .bool]) [.v .tm t1]
def kernel_sides.j1(e2:Tm)(t1:Tm)(s3:Bool):Option (Tm×Tm×Ty×Bool):=(bif s3 then some ((Tm.mk 0 (⟨#[]⟩:ByteArray) (Ty.mk false (⟨#[]⟩:ByteArray) []) 0 []),(Tm.mk 0 (⟨#[]⟩:ByteArray) (Ty.mk false (⟨#[]⟩:ByteArray) []) 0 []),(Ty.mk false (⟨#[]⟩:ByteArray) []),false)else((ixL e2.s 1).bind fun e4=>((ixL t1.s 1).bind fun e5=>((ixL e2.s 0).bind fun e6=>((ixL e6.y.a 0).bind fun e7=>some (e4,e5,e7,true))))))
theorem kernel_sides_eq(t1:Tm):kernel_sides t1=(bif(!decide (t1.k=(4:Int)))then some ((Tm.mk 0 (⟨#[]⟩:ByteArray) (Ty.mk false (⟨#[]⟩:ByteArray) []) 0 []),(Tm.mk 0 (⟨#[]⟩:ByteArray) (Ty.mk false (⟨#[]⟩:ByteArray) []) 0 []),(Ty.mk false (⟨#[]⟩:ByteArray) []),false)else((ixL t1.s 0).bind fun e2=>(jn (kernel_sides.j1 e2 t1) (fun kk1=>(bif(!decide (e2.k=(4:Int)))then(kk1 true)else((ixL e2.s 0).bind fun e8=>(bif(!decide (e8.k=(2:Int)))then(kk1 true)else((ixL e2.s 0).bind fun e9=>(kk1 (!decide (e9.n=(⟨#[61]⟩:ByteArray)))))))))))):=
 aq c89 [.p .tm,.p .tm,.p .ty,.p .bool] (by kernel_rfl) rfl (by kernel_rfl) (by kernel_rfl)
def kernel_EqMp(a1:Sthm)(b2:Sthm):Option (Sthm×Int):=ans X 48 (.tup [.p .thm,.p .int]) [.v .thm a1,.v .thm b2]
def kernel_EqMp.j1(a1:Sthm)(b2:Sthm)(r3:(Option Nnode)×Int)(r5:Tm×Tm×Ty×Bool)(s6:Bool):Option (Sthm×Int):=(bif s6 then some ((Sthm.mk none none),50)else(a1.seq.bind fun p7=>(b2.seq.bind fun p8=>((kernel_union [p7.hyps,p8.hyps]).bind fun r9=>((kernel_done r3.1 r9 r5.2.1 0).bind fun r10=>some (r10.1,r10.2))))))
theorem kernel_EqMp_eq(a1:Sthm)(b2:Sthm):kernel_EqMp a1 b2=((kernel_related a1 b2).bind fun r3=>(bif(!decide (r3.2=(0:Int)))then some ((Sthm.mk none none),r3.2)else(a1.seq.bind fun p4=>((kernel_sides p4.concl).bind fun r5=>(jn (kernel_EqMp.j1 a1 b2 r3 r5) (fun kk1=>(bif(!r5.2.2.2)then(kk1 true)else(b2.seq.bind fun p11=>((terms_Same r5.1 p11.concl).bind fun r12=>(kk1 (!r12))))))))))):=
 aq c48 [.p .thm,.p .int] (by kernel_rfl) rfl (by kernel_rfl) (by kernel_rfl)
def law08_add(th1:Stheory)(a2:Sthm)(h3:Tm):Option (Sthm×Bool):=ans X 36 (.tup [.p .thm,.p .bool]) [.v .theory th1,.v .thm a2,.v .tm h3]
theorem law08_add_eq(th1:Stheory)(a2:Sthm)(h3:Tm):law08_add th1 a2 h3=((kernel_Assume th1 h3).bind fun r4=>(bif(!decide (r4.2=(0:Int)))then some (a2,false)else((kernel_Deduct r4.1 a2).bind fun r5=>(bif(!decide (r5.2=(0:Int)))then some (a2,false)else((kernel_EqMp r5.1 r4.1).bind fun r6=>some (r6.1,(decide (r6.2=(0:Int))))))))):=
 aq c36 [.p .thm,.p .bool] (by kernel_rfl) rfl (by kernel_rfl) (by kernel_rfl)
def law08_Made(x1:Stheory)(x2:Ssequent):Option (Sthm×Bool):=ans X 7 (.tup [.p .thm,.p .bool]) [.v .theory x1,.v .sequent x2]
def law08_Made.s2(x2:Ssequent)(x1:Stheory)(s6:Int×Sthm×Sthm)(next2:(Int×Sthm×Sthm)->Option (Sthm×Bool)):Option (Sthm×Bool):=(bif(decide (s6.1<(List.length x2.hyps:Int)))then((ixL x2.hyps s6.1).bind fun e7=>((law08_add x1 s6.2.2 e7).bind fun r8=>(bif(!r8.2)then some ((Sthm.mk none none),false)else(next2 ((s6.1+1),s6.2.1,r8.1)))))else some (s6.2.2,true))
def law08_Made.j1(x2:Ssequent)(x1:Stheory)(s5:Int×Sthm):Option (Sthm×Bool):=(bif(!decide (s5.1=(0:Int)))then some ((Sthm.mk none none),false)else(loopN (law08_Made.s2 x2 x1) (0,(Sthm.mk none none),s5.2)))
def law08_Made.j3(x1:Stheory)(r3:Tm×Tm×Bool)(kk1:(Int×Sthm)->Option (Sthm×Bool))(r4:Sthm×Int)(s9:Bool):Option (Sthm×Bool):=(bif s9 then((kernel_Refl x1 r3.1).bind fun r10=>(kk1 (r10.2,r10.1)))else(kk1 (r4.2,r4.1)))
theorem law08_Made_eq(x1:Stheory)(x2:Ssequent):law08_Made x1 x2=((ref02_IsEq x2.concl).bind fun r3=>((kernel_Assume x1 x2.concl).bind fun r4=>(jn (law08_Made.j1 x2 x1) (fun kk1=>(jn (law08_Made.j3 x1 r3 kk1 r4) (fun kk3=>(bif r3.2.2 then((ref02_Same r3.1 r3.2.1).bind fun r11=>(kk3 r11))else(kk3 false)))))))):=
 aq c7 [.p .thm,.p .bool] (by kernel_rfl) rfl (by kernel_rfl) (by kernel_rfl)
def kernel_twin(s1:Ssequent):Option (Ssequent):=ans X 80 (.p .sequent) [.v .sequent s1]
def kernel_twin.s1(s1:Ssequent)(s2:Int×Tm×(List Tm))(next1:(Int×Tm×(List Tm))->Option (Ssequent)):Option (Ssequent):=(bif(decide (s2.1<(List.length s1.hyps:Int)))then((ixL s1.hyps s2.1).bind fun e3=>((terms_Twin e3).bind fun r4=>(if List.length s2.2.2+List.length [r4]<=LIM then(next1 ((s2.1+1),s2.2.1,(s2.2.2++[r4])))else none)))else((terms_Twin s1.concl).bind fun r5=>some (Ssequent.mk s2.2.2 r5)))
theorem kernel_twin_eq(s1:Ssequent):kernel_twin s1=(loopN (kernel_twin.s1 s1) (0,(Tm.mk 0 (⟨#[]⟩:ByteArray) (Ty.mk false (⟨#[]⟩:ByteArray) []) 0 []),[])):=
 aq c80 [.p .sequent] (by kernel_rfl) rfl (by kernel_rfl) (by kernel_rfl)
def kernel_Sequent(a1:Sthm):Option (Ssequent×Int):=ans X 38 (.tup [.p .sequent,.p .int]) [.v .thm a1]
theorem kernel_Sequent_eq(a1:Sthm):kernel_Sequent a1=((kernel_zero_Thm [a1]).bind fun r2=>(bif r2 then some ((Ssequent.mk [] (Tm.mk 0 (⟨#[]⟩:ByteArray) (Ty.mk false (⟨#[]⟩:ByteArray) []) 0 [])),52)else(a1.seq.bind fun p3=>((kernel_twin p3).bind fun r4=>some (r4,0))))):=
 aq c38 [.p .sequent,.p .int] (by kernel_rfl) rfl (by kernel_rfl) (by kernel_rfl)
def kernel_Of(a1:Sthm):Option (Stheory×Int):=ans X 39 (.tup [.p .theory,.p .int]) [.v .thm a1]
theorem kernel_Of_eq(a1:Sthm):kernel_Of a1=((kernel_zero_Thm [a1]).bind fun r2=>(bif r2 then some ((Stheory.mk none),52)else some ((Stheory.mk a1.node),0))):=
 aq c39 [.p .theory,.p .int] (by kernel_rfl) rfl (by kernel_rfl) (by kernel_rfl)
def law08_stated(a1:Sthm):Option (Ssequent×Stheory):=ans X 9 (.tup [.p .sequent,.p .theory]) [.v .thm a1]
theorem law08_stated_eq(a1:Sthm):law08_stated a1=((kernel_Sequent a1).bind fun r2=>((kernel_Of a1).bind fun r3=>some (r2.1,r3.1))):=
 aq c9 [.p .sequent,.p .theory] (by kernel_rfl) rfl (by kernel_rfl) (by kernel_rfl)
def Clone_TypeOp(s1:(List Stypeop)):Option ((List Stypeop)):=ans X 82 (.p .ltypeop) [.v .ltypeop s1]
theorem Clone_TypeOp_eq(s1:(List Stypeop)):Clone_TypeOp s1=(bif List.isEmpty s1 then(agree (some []) (if List.length ([]:List Stypeop)+List.length s1<=LIM then some (([]:List Stypeop)++s1)else none))else(if List.length ([]:List Stypeop)+List.length s1<=LIM then some (([]:List Stypeop)++s1)else none)):=
 aq c82 [.p .ltypeop] (by kernel_rfl) rfl (by kernel_rfl) (by kernel_rfl)
def Clone_Consto(s1:(List Sconst)):Option ((List Sconst)):=ansG X 1 83 ho83v1 rs83v1 [] [.v .lconst s1]
theorem Clone_Consto_eq(s1:(List Sconst)):Clone_Consto s1=(bif List.isEmpty s1 then(agree (some []) (if List.length ([]:List Sconst)+List.length s1<=LIM then some (([]:List Sconst)++s1)else none))else(if List.length ([]:List Sconst)+List.length s1<=LIM then some (([]:List Sconst)++s1)else none)):=
 aqG (n:=0) (ho:=ho83v1) c83v1 [.row 0] (by kernel_rfl) rfl (by kernel_rfl) ⟨fun _=>⟨_,_,rfl⟩,trivial⟩ (by kernel_rfl) (by kernel_rfl)
def signature_Twin(s1:Ssignature):Option (Ssignature):=ans X 41 (.p .signature) [.v .signature s1]
def signature_Twin.s1(r3:(List Sconst))(r2:(List Stypeop))(s4:Int×(List Sconst))(next1:(Int×(List Sconst))->Option (Ssignature)):Option (Ssignature):=(bif(decide (s4.1<(List.length r3:Int)))then(if 0<=s4.1/\s4.1<(List.length s4.2:Int)then((s4.2[(Int.toNat s4.1)]?).bind fun e5=>((types_Twin e5.type).bind fun r6=>(if 0<=s4.1/\s4.1<(List.length s4.2:Int)then((s4.2[(Int.toNat s4.1)]?).bind fun e7=>(next1 ((s4.1+1),(List.set s4.2 (Int.toNat s4.1) (Sconst.mk e7.name r6)))))else none)))else none)else some (Ssignature.mk r2 s4.2))
theorem signature_Twin_eq(s1:Ssignature):signature_Twin s1=((Clone_TypeOp s1.types).bind fun r2=>((Clone_Consto s1.consts).bind fun r3=>(loopN (signature_Twin.s1 r3 r2) (0,r3)))):=
 aq c41 [.p .signature] (by kernel_rfl) rfl (by kernel_rfl) (by kernel_rfl)
def kernel_Signature(th1:Stheory):Option (Ssignature×Int):=ans X 10 (.tup [.p .signature,.p .int]) [.v .theory th1]
theorem kernel_Signature_eq(th1:Stheory):kernel_Signature th1=((kernel_zero_Theory [th1]).bind fun r2=>(bif r2 then some ((Ssignature.mk [] []),52)else(th1.node.bind fun p3=>((signature_Twin p3.sig).bind fun r4=>some (r4,0))))):=
 aq c10 [.p .signature,.p .int] (by kernel_rfl) rfl (by kernel_rfl) (by kernel_rfl)
def terms_Check(t1:Tm):Option (Int):=ans X 58 (.p .int) [.v .tm t1]
theorem terms_Check_eq(t1:Tm):terms_Check t1=((terms_typed t1).bind fun r2=>some r2.2):=
 aq c58 [.p .int] (by kernel_rfl) rfl (by kernel_rfl) (by kernel_rfl)
def terms_Size(t1:Tm):Option (Int):=ans X 101 (.p .int) [.v .tm t1]
def terms_Size.s1(t1:Tm)(s2:Int×Int)(next1:(Int×Int)->Option (Int)):Option (Int):=(bif(decide (s2.2<(List.length t1.s:Int)))then((ixL t1.s s2.2).bind fun e3=>((terms_Size e3).bind fun r4=>(next1 ((IntKind.i64.wrap (s2.1+r4)),(s2.2+1)))))else some s2.1)
theorem terms_Size_eq(t1:Tm):terms_Size t1=(loopN (terms_Size.s1 t1) (1,0)):=
 aq c101 [.p .int] (by kernel_rfl) rfl (by kernel_rfl) (by kernel_rfl)
def equality_depth(t1:Tm):Option (Int):=ans X 102 (.p .int) [.v .tm t1]
def equality_depth.s1(t1:Tm)(s2:Int×Int)(next1:(Int×Int)->Option (Int)):Option (Int):=(bif(decide (s2.2<(List.length t1.s:Int)))then((ixL t1.s s2.2).bind fun e3=>((equality_depth e3).bind fun r4=>(next1 ((max s2.1 r4),(s2.2+1)))))else some (IntKind.i64.wrap (s2.1+1)))
theorem equality_depth_eq(t1:Tm):equality_depth t1=(loopN (equality_depth.s1 t1) (0,0)):=
 aq c102 [.p .int] (by kernel_rfl) rfl (by kernel_rfl) (by kernel_rfl)
def types_DestFun(t1:Ty):Option (Ty×Ty×Bool):=ans X 95 (.tup [.p .ty,.p .ty,.p .bool]) [.v .ty t1]
def types_DestFun.j1(t1:Ty)(s2:Bool):Option (Ty×Ty×Bool):=(bif s2 then some ((Ty.mk false (⟨#[]⟩:ByteArray) []),(Ty.mk false (⟨#[]⟩:ByteArray) []),false)else((ixL t1.a 0).bind fun e3=>((types_Twin e3).bind fun r4=>((ixL t1.a 1).bind fun e5=>((types_Twin e5).bind fun r6=>some (r4,r6,true))))))
theorem types_DestFun_eq(t1:Ty):types_DestFun t1=(jn (types_DestFun.j1 t1) (fun kk1=>(bif t1.v then(kk1 true)else(bif(!decide (t1.n=(⟨#[102,117,110]⟩:ByteArray)))then(kk1 true)else(kk1 (!decide ((List.length t1.a:Int)=(2:Int)))))))):=
 aq c95 [.p .ty,.p .ty,.p .bool] (by kernel_rfl) rfl (by kernel_rfl) (by kernel_rfl)
def types_Size(t1:Ty):Option (Int):=ans X 132 (.p .int) [.v .ty t1]
def types_Size.s1(t1:Ty)(s2:Int×Int)(next1:(Int×Int)->Option (Int)):Option (Int):=(bif(decide (s2.2<(List.length t1.a:Int)))then((ixL t1.a s2.2).bind fun e3=>((types_Size e3).bind fun r4=>(next1 ((IntKind.i64.wrap (s2.1+r4)),(s2.2+1)))))else some s2.1)
theorem types_Size_eq(t1:Ty):types_Size t1=(loopN (types_Size.s1 t1) (1,0)):=
 aq c132 [.p .int] (by kernel_rfl) rfl (by kernel_rfl) (by kernel_rfl)
def equality_thin(x1:Tm)(x2:(List Ty)):Option (Ty×Bool):=ans X 103 (.tup [.p .ty,.p .bool]) [.v .tm x1,.v .lty x2]
def equality_thin.j1(s3:Ty×Ty):Option (Ty×Bool):=((types_Size s3.2).bind fun r4=>some (s3.2,(decide (r4<=(100:Int)))))
theorem equality_thin_eq(x1:Tm)(x2:(List Ty)):equality_thin x1 x2=(jn (equality_thin.j1) (fun kk1=>(bif(decide (x1.k=(3:Int)))then((ixL x2 (IntKind.i64.wrap ((IntKind.i64.wrap ((List.length x2:Int)-1))-x1.i))).bind fun e5=>(kk1 ((Ty.mk false (⟨#[]⟩:ByteArray) []),e5)))else(bif(decide (x1.k=(4:Int)))then((ixL x1.s 0).bind fun e6=>((equality_thin e6 x2).bind fun r7=>(bif(!r7.2)then some (x1.y,false)else((ixL x1.s 1).bind fun e8=>((equality_thin e8 x2).bind fun r9=>(bif(!r9.2)then some (x1.y,false)else((types_DestFun r7.1).bind fun r10=>(kk1 ((Ty.mk false (⟨#[]⟩:ByteArray) []),r10.2.1)))))))))else(bif(decide (x1.k=(5:Int)))then((ixL x1.s 0).bind fun e11=>((slcT x2 (List.length x2:Int) (List.length x2:Int)).bind fun l12=>(if List.length l12+List.length [x1.y]<=LIM then((equality_thin e11 (l12++[x1.y])).bind fun r13=>(bif(!r13.2)then some (x1.y,false)else((types_Fun x1.y r13.1).bind fun r14=>(kk1 ((Ty.mk false (⟨#[]⟩:ByteArray) []),r14)))))else none)))else(kk1 ((Ty.mk false (⟨#[]⟩:ByteArray) []),x1.y))))))):=
 aq c103 [.p .ty,.p .bool] (by kernel_rfl) rfl (by kernel_rfl) (by kernel_rfl)
def equality_fits(t1:Tm):Option (Bool):=ans X 56 (.p .bool) [.v .tm t1]
def equality_fits.j1(t1:Tm)(s2:Bool):Option (Bool):=(bif s2 then some false else((equality_thin t1 []).bind fun r3=>some r3.2))
theorem equality_fits_eq(t1:Tm):equality_fits t1=(jn (equality_fits.j1 t1) (fun kk1=>((terms_Size t1).bind fun r4=>(bif(decide ((2000:Int)<r4))then(kk1 true)else((equality_depth t1).bind fun r5=>(kk1 (decide ((100:Int)<r5)))))))):=
 aq c56 [.p .bool] (by kernel_rfl) rfl (by kernel_rfl) (by kernel_rfl)
def equality_CheckTerm(t1:Tm):Option (Int):=ans X 21 (.p .int) [.v .tm t1]
theorem equality_CheckTerm_eq(t1:Tm):equality_CheckTerm t1=((terms_Check t1).bind fun r2=>(bif(!decide (r2=(0:Int)))then some r2 else((equality_fits t1).bind fun r3=>(bif(!r3)then some 21 else some 0)))):=
 aq c21 [.p .int] (by kernel_rfl) rfl (by kernel_rfl) (by kernel_rfl)
def kernel_Extends(a1:Stheory)(b2:Stheory):Option (Bool×Int):=ans X 118 (.tup [.p .bool,.p .int]) [.v .theory a1,.v .theory b2]
theorem kernel_Extends_eq(a1:Stheory)(b2:Stheory):kernel_Extends a1 b2=((kernel_zero_Theory [a1,b2]).bind fun r3=>(bif r3 then some (false,52)else((kernel_extends a1.node b2.node).bind fun r4=>some (r4,0)))):=
 aq c118 [.p .bool,.p .int] (by kernel_rfl) rfl (by kernel_rfl) (by kernel_rfl)
def equality_CheckThm(a1:Sthm):Option (Int):=ans X 19 (.p .int) [.v .thm a1]
def equality_CheckThm.s1(r2:Ssequent×Int)(s3:Int)(next1:(Int)->Option (Int)):Option (Int):=(bif(decide (s3<(List.length r2.1.hyps:Int)))then((ixL r2.1.hyps s3).bind fun e4=>((equality_fits e4).bind fun r5=>(bif(!r5)then some 21 else(next1 (s3+1)))))else((equality_fits r2.1.concl).bind fun r6=>(bif(!r6)then some 21 else some 0)))
theorem equality_CheckThm_eq(a1:Sthm):equality_CheckThm a1=((kernel_Sequent a1).bind fun r2=>(bif(!decide (r2.2=(0:Int)))then some r2.2 else(loopN (equality_CheckThm.s1 r2) 0))):=
 aq c19 [.p .int] (by kernel_rfl) rfl (by kernel_rfl) (by kernel_rfl)
def equality_Larger(x1:(List Stheory)):Option (Stheory×Int):=ans X 119 (.tup [.p .theory,.p .int]) [.v .ltheory x1]
def equality_Larger.j3(next2:(Int×Stheory×Stheory)->Option (Stheory×Int))(s7:Int×Stheory×Stheory)(s8:Stheory×Stheory):Option (Stheory×Int):=(next2 ((s7.1+1),s8.1,s8.2))
def equality_Larger.j5(kk3:(Stheory×Stheory)->Option (Stheory×Int))(s7:Int×Stheory×Stheory)(e9:Stheory)(s13:Bool):Option (Stheory×Int):=(bif s13 then some ((Stheory.mk none),52)else(kk3 (s7.2.1,e9)))
def equality_Larger.j4(kk3:(Stheory×Stheory)->Option (Stheory×Int))(s7:Int×Stheory×Stheory)(e9:Stheory)(s11:Bool):Option (Stheory×Int):=(bif s11 then(kk3 (s7.2.1,s7.2.2))else((kernel_Extends e9 s7.2.2).bind fun r12=>(jn (equality_Larger.j5 kk3 s7 e9) (fun kk5=>(bif(!decide (r12.2=(0:Int)))then(kk5 true)else(kk5 (!r12.1)))))))
def equality_Larger.s2(l6:(List Stheory))(s7:Int×Stheory×Stheory)(next2:(Int×Stheory×Stheory)->Option (Stheory×Int)):Option (Stheory×Int):=(bif(decide (s7.1<(List.length l6:Int)))then(jn (equality_Larger.j3 next2 s7) (fun kk3=>((ixL l6 s7.1).bind fun e9=>((kernel_Extends s7.2.2 e9).bind fun r10=>(jn (equality_Larger.j4 kk3 s7 e9) (fun kk4=>(bif(decide (r10.2=(0:Int)))then(kk4 r10.1)else(kk4 false))))))))else some (s7.2.2,0))
def equality_Larger.s1(x1:(List Stheory))(s2:Int×Stheory)(next1:(Int×Stheory)->Option (Stheory×Int)):Option (Stheory×Int):=(bif(decide (s2.1<(List.length x1:Int)))then((ixL x1 s2.1).bind fun e3=>((kernel_Extends e3 e3).bind fun r4=>(bif(!decide (r4.2=(0:Int)))then some ((Stheory.mk none),52)else(next1 ((s2.1+1),s2.2)))))else((ixL x1 0).bind fun e5=>((slcL x1 1 (List.length x1:Int) (List.length x1:Int)).bind fun l6=>(loopN (equality_Larger.s2 l6) (0,s2.2,e5)))))
theorem equality_Larger_eq(x1:(List Stheory)):equality_Larger x1=(bif(decide ((List.length x1:Int)=(0:Int)))then some ((Stheory.mk none),52)else(loopN (equality_Larger.s1 x1) (0,(Stheory.mk none)))):=
 aq c119 [.p .theory,.p .int] (by kernel_rfl) rfl (by kernel_rfl) (by kernel_rfl)
def equality_Args(x1:(List Tm))(x2:(List Stheory))(x3:(List Sthm))(x4:Stheory):Option (Stheory×Int):=ans X 85 (.tup [.p .theory,.p .int]) [.v .ltm x1,.v .ltheory x2,.v .lthm x3,.v .theory x4]
def equality_Args.s5(x1:(List Tm))(r15:Stheory×Int)(s18:Int×Stheory)(next5:(Int×Stheory)->Option (Stheory×Int)):Option (Stheory×Int):=(bif(decide (s18.1<(List.length x1:Int)))then((ixL x1 s18.1).bind fun e19=>((kernel_Refl r15.1 e19).bind fun r20=>(bif(decide (r20.2=(40:Int)))then some ((Stheory.mk none),40)else(next5 ((s18.1+1),s18.2)))))else some (r15.1,0))
def equality_Args.j4(x1:(List Tm))(r15:Stheory×Int)(s11:Int×Stheory×(List Stheory))(s17:Bool):Option (Stheory×Int):=(bif s17 then some ((Stheory.mk none),52)else(loopN (equality_Args.s5 x1 r15) (0,s11.2.1)))
def equality_Args.s3(x3:(List Sthm))(x4:Stheory)(x1:(List Tm))(s11:Int×Stheory×(List Stheory))(next3:(Int×Stheory×(List Stheory))->Option (Stheory×Int)):Option (Stheory×Int):=(bif(decide (s11.1<(List.length x3:Int)))then((ixL x3 s11.1).bind fun e12=>((equality_CheckThm e12).bind fun r13=>(bif(!decide (r13=(0:Int)))then some ((Stheory.mk none),r13)else((kernel_Of e12).bind fun r14=>(if List.length s11.2.2+List.length [r14.1]<=LIM then(next3 ((s11.1+1),s11.2.1,(s11.2.2++[r14.1])))else none)))))else((equality_Larger s11.2.2).bind fun r15=>(bif(!decide (r15.2=(0:Int)))then some ((Stheory.mk none),r15.2)else((kernel_Extends r15.1 x4).bind fun r16=>(jn (equality_Args.j4 x1 r15 s11) (fun kk4=>(bif(!decide (r16.2=(0:Int)))then(kk4 true)else(kk4 (!r16.1)))))))))
def equality_Args.s2(x2:(List Stheory))(x3:(List Sthm))(x4:Stheory)(x1:(List Tm))(s8:Int×Stheory)(next2:(Int×Stheory)->Option (Stheory×Int)):Option (Stheory×Int):=(bif(decide (s8.1<(List.length x2:Int)))then((ixL x2 s8.1).bind fun e9=>((kernel_Extends e9 e9).bind fun r10=>(bif(!decide (r10.2=(0:Int)))then some ((Stheory.mk none),52)else(next2 ((s8.1+1),s8.2)))))else(if List.length ([]:List Stheory)+List.length x2<=LIM then(loopN (equality_Args.s3 x3 x4 x1) (0,s8.2,(([]:List Stheory)++x2)))else none))
def equality_Args.s1(x1:(List Tm))(x2:(List Stheory))(x3:(List Sthm))(x4:Stheory)(s5:Int×Stheory)(next1:(Int×Stheory)->Option (Stheory×Int)):Option (Stheory×Int):=(bif(decide (s5.1<(List.length x1:Int)))then((ixL x1 s5.1).bind fun e6=>((equality_CheckTerm e6).bind fun r7=>(bif(!decide (r7=(0:Int)))then some ((Stheory.mk none),r7)else(next1 ((s5.1+1),s5.2)))))else(loopN (equality_Args.s2 x2 x3 x4 x1) (0,s5.2)))
theorem equality_Args_eq(x1:(List Tm))(x2:(List Stheory))(x3:(List Sthm))(x4:Stheory):equality_Args x1 x2 x3 x4=(loopN (equality_Args.s1 x1 x2 x3 x4) (0,(Stheory.mk none))):=
 aq c85 [.p .theory,.p .int] (by kernel_rfl) rfl (by kernel_rfl) (by kernel_rfl)
def equality_start(l1:(List Tm))(thms2:(List Sthm)):Option (Sengine×Int):=ans X 42 (.tup [.p .engine,.p .int]) [.v .ltm l1,.v .lthm thms2]
theorem equality_start_eq(l1:(List Tm))(thms2:(List Sthm)):equality_start l1 thms2=((kernel_Initial).bind fun r3=>((equality_Args l1 [] thms2 r3).bind fun r4=>some ((Sengine.mk r4.1),r4.2))):=
 aq c42 [.p .engine,.p .int] (by kernel_rfl) rfl (by kernel_rfl) (by kernel_rfl)
def equality_concl(a1:Sthm):Option (Tm):=ans X 45 (.p .tm) [.v .thm a1]
theorem equality_concl_eq(a1:Sthm):equality_concl a1=((kernel_Sequent a1).bind fun r2=>some r2.1.concl):=
 aq c45 [.p .tm] (by kernel_rfl) rfl (by kernel_rfl) (by kernel_rfl)
def terms_IsEq(t1:Tm):Option (Tm×Tm×Bool):=ans X 86 (.tup [.p .tm,.p .tm,.p .bool]) [.v .tm t1]
def terms_IsEq.j2(e3:Tm)(t1:Tm)(s4:Bool):Option (Tm×Tm×Bool):=(bif s4 then some ((Tm.mk 0 (⟨#[]⟩:ByteArray) (Ty.mk false (⟨#[]⟩:ByteArray) []) 0 []),(Tm.mk 0 (⟨#[]⟩:ByteArray) (Ty.mk false (⟨#[]⟩:ByteArray) []) 0 []),false)else((ixL e3.s 1).bind fun e5=>((terms_Twin e5).bind fun r6=>((ixL t1.s 1).bind fun e7=>((terms_Twin e7).bind fun r8=>some (r6,r8,true))))))
def terms_IsEq.j1(t1:Tm)(s2:Bool):Option (Tm×Tm×Bool):=(bif s2 then some ((Tm.mk 0 (⟨#[]⟩:ByteArray) (Ty.mk false (⟨#[]⟩:ByteArray) []) 0 []),(Tm.mk 0 (⟨#[]⟩:ByteArray) (Ty.mk false (⟨#[]⟩:ByteArray) []) 0 []),false)else((ixL t1.s 0).bind fun e3=>(jn (terms_IsEq.j2 e3 t1) (fun kk2=>(bif(!decide (e3.k=(4:Int)))then(kk2 true)else(bif(!decide ((List.length e3.s:Int)=(2:Int)))then(kk2 true)else((ixL e3.s 0).bind fun e9=>(bif(!decide (e9.k=(2:Int)))then(kk2 true)else((ixL e3.s 0).bind fun e10=>(kk2 (!decide (e10.n=(⟨#[61]⟩:ByteArray)))))))))))))
theorem terms_IsEq_eq(t1:Tm):terms_IsEq t1=(jn (terms_IsEq.j1 t1) (fun kk1=>(bif(!decide (t1.k=(4:Int)))then(kk1 true)else(kk1 (!decide ((List.length t1.s:Int)=(2:Int))))))):=
 aq c86 [.p .tm,.p .tm,.p .bool] (by kernel_rfl) rfl (by kernel_rfl) (by kernel_rfl)
def equality_equation(a1:Sthm):Option (Tm×Tm×Int):=ans X 43 (.tup [.p .tm,.p .tm,.p .int]) [.v .thm a1]
theorem equality_equation_eq(a1:Sthm):equality_equation a1=((equality_concl a1).bind fun r2=>((terms_IsEq r2).bind fun r3=>(bif(!r3.2.2)then some ((Tm.mk 0 (⟨#[]⟩:ByteArray) (Ty.mk false (⟨#[]⟩:ByteArray) []) 0 []),(Tm.mk 0 (⟨#[]⟩:ByteArray) (Ty.mk false (⟨#[]⟩:ByteArray) []) 0 []),50)else some (r3.1,r3.2.1,0)))):=
 aq c43 [.p .tm,.p .tm,.p .int] (by kernel_rfl) rfl (by kernel_rfl) (by kernel_rfl)
def equality_Sides(a1:Sthm):Option (Tm×Tm×Int):=ans X 11 (.tup [.p .tm,.p .tm,.p .int]) [.v .thm a1]
def ref01_Name(s1:ByteArray):Option (Bool):=ans X 157 (.p .bool) [.v .str s1]
def ref01_Name.j3(next2:(Int)->Option (Bool))(s3:Int)(s5:Bool):Option (Bool):=(bif s5 then some false else(next2 (s3+1)))
def ref01_Name.s2(s1:ByteArray)(s3:Int)(next2:(Int)->Option (Bool)):Option (Bool):=(bif(decide (s3<(ByteArray.size s1:Int)))then((ixS s1 s3).bind fun c4=>(jn (ref01_Name.j3 next2 s3) (fun kk3=>(bif(decide (c4<(33:Int)))then(kk3 true)else(bif(decide ((126:Int)<c4))then(kk3 true)else(bif(decide (c4=(40:Int)))then(kk3 true)else(bif(decide (c4=(41:Int)))then(kk3 true)else(bif(decide (c4=(44:Int)))then(kk3 true)else(bif(decide (c4=(58:Int)))then(kk3 true)else(bif(decide (c4=(92:Int)))then(kk3 true)else(bif(decide (c4=(46:Int)))then(kk3 true)else(kk3 (decide (c4=(34:Int)))))))))))))))else some true)
def ref01_Name.j1(s1:ByteArray)(s2:Bool):Option (Bool):=(bif s2 then some false else(loopN (ref01_Name.s2 s1) 0))
theorem ref01_Name_eq(s1:ByteArray):ref01_Name s1=(jn (ref01_Name.j1 s1) (fun kk1=>(bif(decide ((ByteArray.size s1:Int)<(1:Int)))then(kk1 true)else(kk1 (decide ((30:Int)<(ByteArray.size s1:Int))))))):=
 aq c157 [.p .bool] (by kernel_rfl) rfl (by kernel_rfl) (by kernel_rfl)
def ref02_Name(s1:ByteArray):Option (Bool):=ans X 128 (.p .bool) [.v .str s1]
theorem ref02_Name_eq(s1:ByteArray):ref02_Name s1=((ref01_Name s1).bind fun r2=>(bif r2 then((ixS s1 0).bind fun c3=>some (!decide (c3=(39:Int))))else some false)):=
 aq c128 [.p .bool] (by kernel_rfl) rfl (by kernel_rfl) (by kernel_rfl)
def ref01_Size(t1:Ty):Option (Int):=ans X 133 (.p .int) [.v .ty t1]
def ref01_Size.s1(t1:Ty)(s2:Int×Int)(next1:(Int×Int)->Option (Int)):Option (Int):=(bif(decide (s2.2<(List.length t1.a:Int)))then((ixL t1.a s2.2).bind fun e3=>((ref01_Size e3).bind fun r4=>(next1 ((IntKind.i64.wrap (s2.1+r4)),(s2.2+1)))))else some s2.1)
theorem ref01_Size_eq(t1:Ty):ref01_Size t1=(loopN (ref01_Size.s1 t1) (1,0)):=
 aq c133 [.p .int] (by kernel_rfl) rfl (by kernel_rfl) (by kernel_rfl)
def ref01_Depth(t1:Ty):Option (Int):=ans X 179 (.p .int) [.v .ty t1]
def ref01_Depth.s1(t1:Ty)(s2:Int×Int)(next1:(Int×Int)->Option (Int)):Option (Int):=(bif(decide (s2.2<(List.length t1.a:Int)))then((ixL t1.a s2.2).bind fun e3=>((ref01_Depth e3).bind fun r4=>(next1 ((max s2.1 r4),(s2.2+1)))))else some (IntKind.i64.wrap (1+s2.1)))
theorem ref01_Depth_eq(t1:Ty):ref01_Depth t1=(loopN (ref01_Depth.s1 t1) (0,0)):=
 aq c179 [.p .int] (by kernel_rfl) rfl (by kernel_rfl) (by kernel_rfl)
def ref01_Small(t1:Ty):Option (Bool):=ans X 158 (.p .bool) [.v .ty t1]
theorem ref01_Small_eq(t1:Ty):ref01_Small t1=((ref01_Size t1).bind fun r2=>(bif(decide (r2<=(500:Int)))then((ref01_Depth t1).bind fun r3=>some (decide (r3<=(200:Int))))else some false)):=
 aq c158 [.p .bool] (by kernel_rfl) rfl (by kernel_rfl) (by kernel_rfl)
def ref01_shape(t1:Ty):Option (Bool):=ans X 159 (.p .bool) [.v .ty t1]
def ref01_shape.s2(t1:Ty)(s3:Int)(next2:(Int)->Option (Bool)):Option (Bool):=(bif(decide (s3<(List.length t1.a:Int)))then((ixL t1.a s3).bind fun e4=>((ref01_shape e4).bind fun r5=>(bif(!r5)then some false else(next2 (s3+1)))))else some true)
def ref01_shape.j1(t1:Ty)(s2:Bool):Option (Bool):=(bif s2 then some false else(loopN (ref01_shape.s2 t1) 0))
theorem ref01_shape_eq(t1:Ty):ref01_shape t1=(jn (ref01_shape.j1 t1) (fun kk1=>((ref01_Name t1.n).bind fun r6=>(bif(!r6)then(kk1 true)else((ixS t1.n 0).bind fun c7=>(bif(!(t1.v == (decide (c7=(39:Int)))))then(kk1 true)else(bif t1.v then(bif(decide ((0:Int)<(List.length t1.a:Int)))then(kk1 true)else(kk1 (decide ((8:Int)<(List.length t1.a:Int)))))else(kk1 (decide ((8:Int)<(List.length t1.a:Int))))))))))):=
 aq c159 [.p .bool] (by kernel_rfl) rfl (by kernel_rfl) (by kernel_rfl)
def ref01_Valid(t1:Ty):Option (Bool):=ans X 129 (.p .bool) [.v .ty t1]
theorem ref01_Valid_eq(t1:Ty):ref01_Valid t1=((ref01_Small t1).bind fun r2=>(bif r2 then((ref01_shape t1).bind fun r3=>some r3)else some false)):=
 aq c129 [.p .bool] (by kernel_rfl) rfl (by kernel_rfl) (by kernel_rfl)
def ref02_none(t1:Ty):Option (Bool):=ans X 130 (.p .bool) [.v .ty t1]
theorem ref02_none_eq(t1:Ty):ref02_none t1=(bif(!t1.v)then(bif(decide (t1.n=(⟨#[]⟩:ByteArray)))then some (decide ((List.length t1.a:Int)=(0:Int)))else some false)else some false):=
 aq c130 [.p .bool] (by kernel_rfl) rfl (by kernel_rfl) (by kernel_rfl)
def ref01_Same(a1:Ty)(b2:Ty):Option (Bool):=ans X 98 (.p .bool) [.v .ty a1,.v .ty b2]
theorem ref01_Same_eq(a1:Ty)(b2:Ty):ref01_Same a1 b2=((ref01_Compare a1 b2).bind fun r3=>some (decide (r3=(0:Int)))):=
 aq c98 [.p .bool] (by kernel_rfl) rfl (by kernel_rfl) (by kernel_rfl)
def ref01_Fun(a1:Ty)(b2:Ty):Option (Ty):=ans X 131 (.p .ty) [.v .ty a1,.v .ty b2]
theorem ref01_Fun_eq(a1:Ty)(b2:Ty):ref01_Fun a1 b2=((ref01_Twin a1).bind fun r3=>((ref01_Twin b2).bind fun r4=>some (Ty.mk false (⟨#[102,117,110]⟩:ByteArray) [r3,r4]))):=
 aq c131 [.p .ty] (by kernel_rfl) rfl (by kernel_rfl) (by kernel_rfl)
def ref02_Formed(x1:Tm)(x2:(List Ty)):Option (Ty×Bool):=ans X 99 (.tup [.p .ty,.p .bool]) [.v .tm x1,.v .lty x2]
def ref02_Formed.j2(x2:(List Ty))(x1:Tm)(s6:Bool):Option (Ty×Bool):=(bif s6 then some ((Ty.mk false (⟨#[]⟩:ByteArray) []),false)else((ixL x2 x1.i).bind fun e7=>some (e7,true)))
def ref02_Formed.j4(r11:Ty×Bool)(s14:Bool):Option (Ty×Bool):=(bif s14 then some ((Ty.mk false (⟨#[]⟩:ByteArray) []),false)else((ixL r11.1.a 1).bind fun e15=>some (e15,true)))
def ref02_Formed.j3(x1:Tm)(x2:(List Ty))(s9:Bool):Option (Ty×Bool):=(bif s9 then some ((Ty.mk false (⟨#[]⟩:ByteArray) []),false)else((ixL x1.s 0).bind fun e10=>((ref02_Formed e10 x2).bind fun r11=>((ixL x1.s 1).bind fun e12=>((ref02_Formed e12 x2).bind fun r13=>(jn (ref02_Formed.j4 r11) (fun kk4=>(bif(!r11.2)then(kk4 true)else(bif(!r13.2)then(kk4 true)else(bif r11.1.v then(kk4 true)else(bif(!decide (r11.1.n=(⟨#[102,117,110]⟩:ByteArray)))then(kk4 true)else(bif(!decide ((List.length r11.1.a:Int)=(2:Int)))then(kk4 true)else((ixL r11.1.a 0).bind fun e16=>((ref01_Same e16 r13.1).bind fun r17=>(kk4 (!r17))))))))))))))))
def ref02_Formed.j5(x1:Tm)(x2:(List Ty))(s19:Bool):Option (Ty×Bool):=(bif s19 then some ((Ty.mk false (⟨#[]⟩:ByteArray) []),false)else((ixL x1.s 0).bind fun e20=>(if List.length [x1.y]+List.length x2<=LIM then((ref02_Formed e20 ([x1.y]++x2)).bind fun r21=>((ref01_Fun x1.y r21.1).bind fun r22=>(bif r21.2 then((ref01_Valid r22).bind fun r23=>some (r22,r23))else some (r22,false))))else none)))
def ref02_Formed.j1(x1:Tm)(x2:(List Ty))(s3:Bool):Option (Ty×Bool):=(bif s3 then((ref02_Name x1.n).bind fun r4=>(bif r4 then((ref01_Valid x1.y).bind fun r5=>(bif r5 then(bif(decide (x1.i=(0:Int)))then some (x1.y,(decide ((List.length x1.s:Int)=(0:Int))))else some (x1.y,false))else some (x1.y,false)))else some (x1.y,false)))else(bif(decide (x1.k=(3:Int)))then(jn (ref02_Formed.j2 x2 x1) (fun kk2=>(bif(!decide (x1.n=(⟨#[]⟩:ByteArray)))then(kk2 true)else((ref02_none x1.y).bind fun r8=>(bif(!r8)then(kk2 true)else(bif(!decide ((List.length x1.s:Int)=(0:Int)))then(kk2 true)else(bif(decide (x1.i<(0:Int)))then(kk2 true)else(kk2 (decide ((List.length x2:Int)<=x1.i))))))))))else(bif(decide (x1.k=(4:Int)))then(jn (ref02_Formed.j3 x1 x2) (fun kk3=>(bif(!decide (x1.n=(⟨#[]⟩:ByteArray)))then(kk3 true)else((ref02_none x1.y).bind fun r18=>(bif(!r18)then(kk3 true)else(bif(!decide (x1.i=(0:Int)))then(kk3 true)else(kk3 (!decide ((List.length x1.s:Int)=(2:Int))))))))))else(bif(decide (x1.k=(5:Int)))then(jn (ref02_Formed.j5 x1 x2) (fun kk5=>((ref02_Name x1.n).bind fun r24=>(bif(!r24)then(kk5 true)else((ref01_Valid x1.y).bind fun r25=>(bif(!r25)then(kk5 true)else(bif(!decide (x1.i=(0:Int)))then(kk5 true)else(kk5 (!decide ((List.length x1.s:Int)=(1:Int)))))))))))else some ((Ty.mk false (⟨#[]⟩:ByteArray) []),false)))))
theorem ref02_Formed_eq(x1:Tm)(x2:(List Ty)):ref02_Formed x1 x2=(jn (ref02_Formed.j1 x1 x2) (fun kk1=>(bif(decide (x1.k=(1:Int)))then(kk1 true)else(kk1 (decide (x1.k=(2:Int))))))):=
 aq c99 [.p .ty,.p .bool] (by kernel_rfl) rfl (by kernel_rfl) (by kernel_rfl)
def ref02_Check(t1:Tm):Option (Int):=ans X 59 (.p .int) [.v .tm t1]
theorem ref02_Check_eq(t1:Tm):ref02_Check t1=((ref02_Small t1).bind fun r2=>(bif(!r2)then some 21 else((ref02_Formed t1 []).bind fun r3=>(bif(!r3.2)then some 20 else some 0)))):=
 aq c59 [.p .int] (by kernel_rfl) rfl (by kernel_rfl) (by kernel_rfl)
def ref08_thin(x1:Tm)(x2:(List Ty)):Option (Ty×Bool):=ans X 104 (.tup [.p .ty,.p .bool]) [.v .tm x1,.v .lty x2]
def ref08_thin.j1(s3:Ty×Ty):Option (Ty×Bool):=((ref01_Size s3.2).bind fun r4=>some (s3.2,(decide (r4<=(100:Int)))))
def ref08_thin.j2(r7:Ty×Bool)(kk1:(Ty×Ty)->Option (Ty×Bool))(s10:Bool):Option (Ty×Bool):=(bif s10 then some (r7.1,false)else((ixL r7.1.a 1).bind fun e11=>(kk1 ((Ty.mk false (⟨#[]⟩:ByteArray) []),e11))))
theorem ref08_thin_eq(x1:Tm)(x2:(List Ty)):ref08_thin x1 x2=(jn (ref08_thin.j1) (fun kk1=>(bif(decide (x1.k=(3:Int)))then((ixL x2 x1.i).bind fun e5=>(kk1 ((Ty.mk false (⟨#[]⟩:ByteArray) []),e5)))else(bif(decide (x1.k=(4:Int)))then((ixL x1.s 0).bind fun e6=>((ref08_thin e6 x2).bind fun r7=>((ixL x1.s 1).bind fun e8=>((ref08_thin e8 x2).bind fun r9=>(jn (ref08_thin.j2 r7 kk1) (fun kk2=>(bif(!r7.2)then(kk2 true)else(kk2 (!r9.2)))))))))else(bif(decide (x1.k=(5:Int)))then((ixL x1.s 0).bind fun e12=>(if List.length [x1.y]+List.length x2<=LIM then((ref08_thin e12 ([x1.y]++x2)).bind fun r13=>(bif(!r13.2)then some (r13.1,false)else((ref01_Fun x1.y r13.1).bind fun r14=>(kk1 ((Ty.mk false (⟨#[]⟩:ByteArray) []),r14)))))else none))else(kk1 ((Ty.mk false (⟨#[]⟩:ByteArray) []),x1.y))))))):=
 aq c104 [.p .ty,.p .bool] (by kernel_rfl) rfl (by kernel_rfl) (by kernel_rfl)
def ref08_Fits(t1:Tm):Option (Bool):=ans X 57 (.p .bool) [.v .tm t1]
def ref08_Fits.j1(t1:Tm)(s2:Bool):Option (Bool):=(bif s2 then some false else((ref08_thin t1 []).bind fun r3=>some r3.2))
theorem ref08_Fits_eq(t1:Tm):ref08_Fits t1=(jn (ref08_Fits.j1 t1) (fun kk1=>((ref02_Size t1).bind fun r4=>(bif(decide ((2000:Int)<r4))then(kk1 true)else((ref02_Depth t1).bind fun r5=>(kk1 (decide ((100:Int)<r5)))))))):=
 aq c57 [.p .bool] (by kernel_rfl) rfl (by kernel_rfl) (by kernel_rfl)
def ref08_CheckTerm(t1:Tm):Option (Int):=ans X 22 (.p .int) [.v .tm t1]
def ref08_CheckTerm.j1(r2:Int)(s3:Bool):Option (Int):=(bif s3 then some 21 else some r2)
theorem ref08_CheckTerm_eq(t1:Tm):ref08_CheckTerm t1=((ref02_Check t1).bind fun r2=>(jn (ref08_CheckTerm.j1 r2) (fun kk1=>(bif(decide (r2=(0:Int)))then((ref08_Fits t1).bind fun r4=>(kk1 (!r4)))else(kk1 false))))):=
 aq c22 [.p .int] (by kernel_rfl) rfl (by kernel_rfl) (by kernel_rfl)
def ref08_FitsSequent(s1:Ssequent):Option (Bool):=ans X 20 (.p .bool) [.v .sequent s1]
def ref08_FitsSequent.s1(s1:Ssequent)(s2:Int)(next1:(Int)->Option (Bool)):Option (Bool):=(bif(decide (s2<(List.length s1.hyps:Int)))then((ixL s1.hyps s2).bind fun e3=>((ref08_Fits e3).bind fun r4=>(bif(!r4)then some false else(next1 (s2+1)))))else((ref08_Fits s1.concl).bind fun r5=>some r5))
theorem ref08_FitsSequent_eq(s1:Ssequent):ref08_FitsSequent s1=(loopN (ref08_FitsSequent.s1 s1) 0):=
 aq c20 [.p .bool] (by kernel_rfl) rfl (by kernel_rfl) (by kernel_rfl)
def ref04_Operator(name1:ByteArray):Option (Bool):=ans X 147 (.p .bool) [.v .str name1]
theorem ref04_Operator_eq(name1:ByteArray):ref04_Operator name1=((ref01_Name name1).bind fun r2=>(bif r2 then((ixS name1 0).bind fun c3=>some (!decide (c3=(39:Int))))else some false)):=
 aq c147 [.p .bool] (by kernel_rfl) rfl (by kernel_rfl) (by kernel_rfl)
def ref04_TypeOp(s1:Ssignature)(name2:ByteArray):Option (Int×Bool):=ans X 173 (.tup [.p .int,.p .bool]) [.v .signature s1,.v .str name2]
def ref04_TypeOp.s1(s1:Ssignature)(name2:ByteArray)(s3:Int)(next1:(Int)->Option (Int×Bool)):Option (Int×Bool):=(bif(decide (s3<(List.length s1.types:Int)))then((ixL s1.types s3).bind fun e4=>(bif(decide (e4.name=name2))then((ixL s1.types s3).bind fun e5=>some (e5.arity,true))else(next1 (s3+1))))else some (0,false))
theorem ref04_TypeOp_eq(s1:Ssignature)(name2:ByteArray):ref04_TypeOp s1 name2=(loopN (ref04_TypeOp.s1 s1 name2) 0):=
 aq c173 [.p .int,.p .bool] (by kernel_rfl) rfl (by kernel_rfl) (by kernel_rfl)
def ref04_OverType(s1:Ssignature)(t2:Ty):Option (Bool):=ans X 148 (.p .bool) [.v .signature s1,.v .ty t2]
def ref04_OverType.s2(t2:Ty)(s1:Ssignature)(s5:Int)(next2:(Int)->Option (Bool)):Option (Bool):=(bif(decide (s5<(List.length t2.a:Int)))then((ixL t2.a s5).bind fun e6=>((ref04_OverType s1 e6).bind fun r7=>(bif(!r7)then some false else(next2 (s5+1)))))else some true)
def ref04_OverType.j1(t2:Ty)(s1:Ssignature)(s4:Bool):Option (Bool):=(bif s4 then some false else(loopN (ref04_OverType.s2 t2 s1) 0))
theorem ref04_OverType_eq(s1:Ssignature)(t2:Ty):ref04_OverType s1 t2=(bif t2.v then some true else((ref04_TypeOp s1 t2.n).bind fun r3=>(jn (ref04_OverType.j1 t2 s1) (fun kk1=>(bif(!r3.2)then(kk1 true)else(kk1 (!decide (r3.1=(List.length t2.a:Int))))))))):=
 aq c148 [.p .bool] (by kernel_rfl) rfl (by kernel_rfl) (by kernel_rfl)
def ref04_Check(x1:Ssignature):Option (Int):=ans X 120 (.p .int) [.v .signature x1]
def ref04_Check.s4(s3:Int)(x1:Ssignature)(next2:(Int)->Option (Int))(s5:Int)(next4:(Int)->Option (Int)):Option (Int):=(bif(decide (s5<s3))then((ixL x1.types s5).bind fun e6=>((ixL x1.types s3).bind fun e7=>(bif(decide (e6.name=e7.name))then some 8 else(next4 (s5+1)))))else(next2 (s3+1)))
def ref04_Check.j3(s3:Int)(x1:Ssignature)(next2:(Int)->Option (Int))(s4:Bool):Option (Int):=(bif s4 then some 8 else(loopN (ref04_Check.s4 s3 x1 next2) 0))
def ref04_Check.s7(s12:Int)(x1:Ssignature)(next5:(Int)->Option (Int))(s14:Int)(next7:(Int)->Option (Int)):Option (Int):=(bif(decide (s14<s12))then((ixL x1.consts s14).bind fun e15=>((ixL x1.consts s12).bind fun e16=>(bif(decide (e15.name=e16.name))then some 8 else(next7 (s14+1)))))else(next5 (s12+1)))
def ref04_Check.j6(s12:Int)(x1:Ssignature)(next5:(Int)->Option (Int))(s13:Bool):Option (Int):=(bif s13 then some 8 else(loopN (ref04_Check.s7 s12 x1 next5) 0))
def ref04_Check.s5(x1:Ssignature)(s12:Int)(next5:(Int)->Option (Int)):Option (Int):=(bif(decide (s12<(List.length x1.consts:Int)))then(jn (ref04_Check.j6 s12 x1 next5) (fun kk6=>((ixL x1.consts s12).bind fun e17=>((ref02_Name e17.name).bind fun r18=>(bif(!r18)then(kk6 true)else((ixL x1.consts s12).bind fun e19=>((ref01_Valid e19.type).bind fun r20=>(bif(!r20)then(kk6 true)else((ixL x1.consts s12).bind fun e21=>((ref04_OverType x1 e21.type).bind fun r22=>(kk6 (!r22))))))))))))else some 0)
def ref04_Check.s2(x1:Ssignature)(s3:Int)(next2:(Int)->Option (Int)):Option (Int):=(bif(decide (s3<(List.length x1.types:Int)))then(jn (ref04_Check.j3 s3 x1 next2) (fun kk3=>((ixL x1.types s3).bind fun e8=>((ref04_Operator e8.name).bind fun r9=>(bif(!r9)then(kk3 true)else((ixL x1.types s3).bind fun e10=>(bif(decide (e10.arity<(0:Int)))then(kk3 true)else((ixL x1.types s3).bind fun e11=>(kk3 (decide ((8:Int)<e11.arity)))))))))))else(loopN (ref04_Check.s5 x1) 0))
def ref04_Check.j1(x1:Ssignature)(s2:Bool):Option (Int):=(bif s2 then some 4 else(loopN (ref04_Check.s2 x1) 0))
theorem ref04_Check_eq(x1:Ssignature):ref04_Check x1=(jn (ref04_Check.j1 x1) (fun kk1=>(bif(decide ((512:Int)<(List.length x1.types:Int)))then(kk1 true)else(kk1 (decide ((512:Int)<(List.length x1.consts:Int))))))):=
 aq c120 [.p .int] (by kernel_rfl) rfl (by kernel_rfl) (by kernel_rfl)
def ref04_Const(s1:Ssignature)(name2:ByteArray):Option (Ty×Bool):=ans X 149 (.tup [.p .ty,.p .bool]) [.v .signature s1,.v .str name2]
def ref04_Const.s1(s1:Ssignature)(name2:ByteArray)(s3:Int×Ty)(next1:(Int×Ty)->Option (Ty×Bool)):Option (Ty×Bool):=(bif(decide (s3.1<(List.length s1.consts:Int)))then((ixL s1.consts s3.1).bind fun e4=>(bif(decide (e4.name=name2))then((ixL s1.consts s3.1).bind fun e5=>((ref01_Twin e5.type).bind fun r6=>some (r6,true)))else(next1 ((s3.1+1),s3.2))))else some ((Ty.mk false (⟨#[]⟩:ByteArray) []),false))
theorem ref04_Const_eq(s1:Ssignature)(name2:ByteArray):ref04_Const s1 name2=(loopN (ref04_Const.s1 s1 name2) (0,(Ty.mk false (⟨#[]⟩:ByteArray) []))):=
 aq c149 [.p .ty,.p .bool] (by kernel_rfl) rfl (by kernel_rfl) (by kernel_rfl)
def ref01_Of(s1:(List Stypebind))(v2:ByteArray):Option (Ty×Bool):=ans X 174 (.tup [.p .ty,.p .bool]) [.v .ltypebind s1,.v .str v2]
def ref01_Of.s1(s1:(List Stypebind))(v2:ByteArray)(s3:Int×Ty)(next1:(Int×Ty)->Option (Ty×Bool)):Option (Ty×Bool):=(bif(decide (s3.1<(List.length s1:Int)))then((ixL s1 s3.1).bind fun e4=>(bif(decide (e4.var=v2))then((ixL s1 s3.1).bind fun e5=>some (e5.type,true))else(next1 ((s3.1+1),s3.2))))else some ((Ty.mk true v2 []),false))
theorem ref01_Of_eq(s1:(List Stypebind))(v2:ByteArray):ref01_Of s1 v2=(loopN (ref01_Of.s1 s1 v2) (0,(Ty.mk false (⟨#[]⟩:ByteArray) []))):=
 aq c174 [.p .ty,.p .bool] (by kernel_rfl) rfl (by kernel_rfl) (by kernel_rfl)
def ref01_Matched(x1:Ty)(x2:Ty)(x3:(List Stypebind)):Option ((List Stypebind)×Bool):=ans X 150 (.tup [.p .ltypebind,.p .bool]) [.v .ty x1,.v .ty x2,.v .ltypebind x3]
def ref01_Matched.s2(x1:Ty)(x2:Ty)(s8:(List Stypebind)×Int)(next2:((List Stypebind)×Int)->Option ((List Stypebind)×Bool)):Option ((List Stypebind)×Bool):=(bif(decide (s8.2<(List.length x1.a:Int)))then((ixL x1.a s8.2).bind fun e9=>((ixL x2.a s8.2).bind fun e10=>((ref01_Matched e9 e10 s8.1).bind fun r11=>(bif(!r11.2)then some ([],false)else(next2 (r11.1,(s8.2+1)))))))else some (s8.1,true))
def ref01_Matched.j1(x1:Ty)(x2:Ty)(x3:(List Stypebind))(s7:Bool):Option ((List Stypebind)×Bool):=(bif s7 then some ([],false)else(loopN (ref01_Matched.s2 x1 x2) (x3,0)))
theorem ref01_Matched_eq(x1:Ty)(x2:Ty)(x3:(List Stypebind)):ref01_Matched x1 x2 x3=(bif x1.v then((ref01_Of x3 x1.n).bind fun r4=>(bif r4.2 then((ref01_Same r4.1 x2).bind fun r5=>some (x3,r5))else(if List.length ([]:List Stypebind)+List.length x3<=LIM then((ref01_Twin x2).bind fun r6=>(if List.length (([]:List Stypebind)++x3)+List.length [(Stypebind.mk x1.n r6)]<=LIM then some (((([]:List Stypebind)++x3)++[(Stypebind.mk x1.n r6)]),true)else none))else none)))else(jn (ref01_Matched.j1 x1 x2 x3) (fun kk1=>(bif x2.v then(kk1 true)else(bif(!decide (x1.n=x2.n))then(kk1 true)else(kk1 (!decide ((List.length x1.a:Int)=(List.length x2.a:Int))))))))):=
 aq c150 [.p .ltypebind,.p .bool] (by kernel_rfl) rfl (by kernel_rfl) (by kernel_rfl)
def ref04_OverTerm(s1:Ssignature)(t2:Tm):Option (Bool):=ans X 121 (.p .bool) [.v .signature s1,.v .tm t2]
def ref04_OverTerm.s3(t2:Tm)(s1:Ssignature)(s5:Int)(next3:(Int)->Option (Bool)):Option (Bool):=(bif(decide (s5<(List.length t2.s:Int)))then((ixL t2.s s5).bind fun e6=>((ref04_OverTerm s1 e6).bind fun r7=>(bif(!r7)then some false else(next3 (s5+1)))))else some true)
def ref04_OverTerm.j2(t2:Tm)(s1:Ssignature)(s4:Unit):Option (Bool):=(loopN (ref04_OverTerm.s3 t2 s1) 0)
def ref04_OverTerm.j1(t2:Tm)(s1:Ssignature)(s3:Unit):Option (Bool):=(jn (ref04_OverTerm.j2 t2 s1) (fun kk2=>(bif(decide (t2.k=(2:Int)))then((ref04_Const s1 t2.n).bind fun r8=>(bif(!r8.2)then some false else((ref01_Matched r8.1 t2.y []).bind fun r9=>(bif(!r9.2)then some false else(kk2 ())))))else(kk2 ()))))
def ref04_OverTerm.j4(s1:Ssignature)(t2:Tm)(kk1:(Unit)->Option (Bool))(s10:Bool):Option (Bool):=(bif s10 then((ref04_OverType s1 t2.y).bind fun r11=>(bif(!r11)then some false else(kk1 ())))else(kk1 ()))
theorem ref04_OverTerm_eq(s1:Ssignature)(t2:Tm):ref04_OverTerm s1 t2=(jn (ref04_OverTerm.j1 t2 s1) (fun kk1=>(jn (ref04_OverTerm.j4 s1 t2 kk1) (fun kk4=>(bif(decide (t2.k=(1:Int)))then(kk4 true)else(bif(decide (t2.k=(2:Int)))then(kk4 true)else(kk4 (decide (t2.k=(5:Int)))))))))):=
 aq c121 [.p .bool] (by kernel_rfl) rfl (by kernel_rfl) (by kernel_rfl)
def ref04_Term(s1:Ssignature)(t2:Tm):Option (Int):=ans X 87 (.p .int) [.v .signature s1,.v .tm t2]
theorem ref04_Term_eq(s1:Ssignature)(t2:Tm):ref04_Term s1 t2=((ref04_Check s1).bind fun r3=>(bif(!decide (r3=(0:Int)))then some r3 else((ref02_Check t2).bind fun r4=>(bif(!decide (r4=(0:Int)))then some r4 else((ref04_OverTerm s1 t2).bind fun r5=>(bif(!r5)then some 40 else some 0)))))):=
 aq c87 [.p .int] (by kernel_rfl) rfl (by kernel_rfl) (by kernel_rfl)
def ref08_Args(sig1:Ssignature)(l2:(List Tm))(s3:(List Ssequent)):Option (Int):=ans X 44 (.p .int) [.v .signature sig1,.v .ltm l2,.v .lsequent s3]
def ref08_Args.s3(l2:(List Tm))(sig1:Ssignature)(s10:Int)(next3:(Int)->Option (Int)):Option (Int):=(bif(decide (s10<(List.length l2:Int)))then((ixL l2 s10).bind fun e11=>((ref04_Term sig1 e11).bind fun r12=>(bif(!decide (r12=(0:Int)))then some 40 else(next3 (s10+1)))))else some 0)
def ref08_Args.s2(s3:(List Ssequent))(l2:(List Tm))(sig1:Ssignature)(s7:Int)(next2:(Int)->Option (Int)):Option (Int):=(bif(decide (s7<(List.length s3:Int)))then((ixL s3 s7).bind fun e8=>((ref08_FitsSequent e8).bind fun r9=>(bif(!r9)then some 21 else(next2 (s7+1)))))else(loopN (ref08_Args.s3 l2 sig1) 0))
def ref08_Args.s1(l2:(List Tm))(s3:(List Ssequent))(sig1:Ssignature)(s4:Int)(next1:(Int)->Option (Int)):Option (Int):=(bif(decide (s4<(List.length l2:Int)))then((ixL l2 s4).bind fun e5=>((ref08_CheckTerm e5).bind fun r6=>(bif(!decide (r6=(0:Int)))then some r6 else(next1 (s4+1)))))else(loopN (ref08_Args.s2 s3 l2 sig1) 0))
theorem ref08_Args_eq(sig1:Ssignature)(l2:(List Tm))(s3:(List Ssequent)):ref08_Args sig1 l2 s3=(loopN (ref08_Args.s1 l2 s3 sig1) 0):=
 aq c44 [.p .int] (by kernel_rfl) rfl (by kernel_rfl) (by kernel_rfl)
def ref08_Sides(a1:Ssequent):Option (Tm×Tm×Int):=ans X 12 (.tup [.p .tm,.p .tm,.p .int]) [.v .sequent a1]
def equality_engine_refl(x1:Sengine)(t2:Tm):Option (Sthm):=ans X 47 (.p .thm) [.v .engine x1,.v .tm t2]
theorem equality_engine_refl_eq(x1:Sengine)(t2:Tm):equality_engine_refl x1 t2=((kernel_Refl x1.theory t2).bind fun r3=>some r3.1):=
 aq c47 [.p .thm] (by kernel_rfl) rfl (by kernel_rfl) (by kernel_rfl)
def kernel_Comb(x1:Sthm)(x2:Sthm):Option (Sthm×Int):=ans X 46 (.tup [.p .thm,.p .int]) [.v .thm x1,.v .thm x2]
def kernel_Comb.j2(r5:Tm×Tm×Ty×Bool)(r7:Tm×Tm×Ty×Bool)(x1:Sthm)(x2:Sthm)(r3:(Option Nnode)×Int)(s9:Bool):Option (Sthm×Int):=(bif s9 then some ((Sthm.mk none none),50)else((kernel_comb r5.1 r7.1).bind fun r10=>((kernel_comb r5.2.1 r7.2.1).bind fun r11=>((ixL r5.2.2.1.a 1).bind fun e12=>((kernel_equation r10 r11 e12).bind fun r13=>(x1.seq.bind fun p14=>(x2.seq.bind fun p15=>((kernel_union [p14.hyps,p15.hyps]).bind fun r16=>((kernel_done r3.1 r16 r13.1 r13.2).bind fun r17=>some (r17.1,r17.2))))))))))
def kernel_Comb.j1(r5:Tm×Tm×Ty×Bool)(r7:Tm×Tm×Ty×Bool)(x1:Sthm)(x2:Sthm)(r3:(Option Nnode)×Int)(s8:Bool):Option (Sthm×Int):=(bif s8 then some ((Sthm.mk none none),50)else(jn (kernel_Comb.j2 r5 r7 x1 x2 r3) (fun kk2=>(bif r5.2.2.1.v then(kk2 true)else(bif(!decide (r5.2.2.1.n=(⟨#[102,117,110]⟩:ByteArray)))then(kk2 true)else(bif(!decide ((List.length r5.2.2.1.a:Int)=(2:Int)))then(kk2 true)else((ixL r5.2.2.1.a 0).bind fun e18=>((types_Same e18 r7.2.2.1).bind fun r19=>(kk2 (!r19))))))))))
theorem kernel_Comb_eq(x1:Sthm)(x2:Sthm):kernel_Comb x1 x2=((kernel_related x1 x2).bind fun r3=>(bif(!decide (r3.2=(0:Int)))then some ((Sthm.mk none none),r3.2)else(x1.seq.bind fun p4=>((kernel_sides p4.concl).bind fun r5=>(x2.seq.bind fun p6=>((kernel_sides p6.concl).bind fun r7=>(jn (kernel_Comb.j1 r5 r7 x1 x2 r3) (fun kk1=>(bif(!r5.2.2.2)then(kk1 true)else(kk1 (!r7.2.2.2))))))))))):=
 aq c46 [.p .thm,.p .int] (by kernel_rfl) rfl (by kernel_rfl) (by kernel_rfl)
def equality_Sym(a1:Sthm):Option (Sthm×Int):=ans X 13 (.tup [.p .thm,.p .int]) [.v .thm a1]
def ref02_Type(t1:Tm):Option (Ty):=ans X 54 (.p .ty) [.v .tm t1]
theorem ref02_Type_eq(t1:Tm):ref02_Type t1=((ref02_Formed t1 []).bind fun r2=>((ref01_Twin r2.1).bind fun r3=>some r3)):=
 aq c54 [.p .ty] (by kernel_rfl) rfl (by kernel_rfl) (by kernel_rfl)
def ref01_Bool:Option (Ty):=ans X 156 (.p .ty) []
theorem ref01_Bool_eq:ref01_Bool=some (Ty.mk false (⟨#[98,111,111,108]⟩:ByteArray) []):=
 aq c156 [.p .ty] (by kernel_rfl) rfl (by kernel_rfl) (by kernel_rfl)
def ref02_Equals(t1:Ty):Option (Tm):=ans X 127 (.p .tm) [.v .ty t1]
theorem ref02_Equals_eq(t1:Ty):ref02_Equals t1=((ref01_Bool).bind fun r2=>((ref01_Fun t1 r2).bind fun r3=>((ref01_Fun t1 r3).bind fun r4=>some (Tm.mk 2 (⟨#[61]⟩:ByteArray) r4 0 [])))):=
 aq c127 [.p .tm] (by kernel_rfl) rfl (by kernel_rfl) (by kernel_rfl)
def ref02_App(f1:Tm)(x2:Tm):Option (Tm):=ans X 55 (.p .tm) [.v .tm f1,.v .tm x2]
theorem ref02_App_eq(f1:Tm)(x2:Tm):ref02_App f1 x2=some (Tm.mk 4 (⟨#[]⟩:ByteArray) (Ty.mk false (⟨#[]⟩:ByteArray) []) 0 [f1,x2]):=
 aq c55 [.p .tm] (by kernel_rfl) rfl (by kernel_rfl) (by kernel_rfl)
def ref02_Equation(l1:Tm)(r2:Tm)(t3:Ty):Option (Tm):=ans X 94 (.p .tm) [.v .tm l1,.v .tm r2,.v .ty t3]
theorem ref02_Equation_eq(l1:Tm)(r2:Tm)(t3:Ty):ref02_Equation l1 r2 t3=((ref02_Equals t3).bind fun r4=>((ref02_App r4 l1).bind fun r5=>((ref02_App r5 r2).bind fun r6=>some r6))):=
 aq c94 [.p .tm] (by kernel_rfl) rfl (by kernel_rfl) (by kernel_rfl)
def ref08_Equate(l1:Tm)(r2:Tm):Option (Tm):=ans X 50 (.p .tm) [.v .tm l1,.v .tm r2]
theorem ref08_Equate_eq(l1:Tm)(r2:Tm):ref08_Equate l1 r2=((ref02_Type l1).bind fun r3=>((ref02_Equation l1 r2 r3).bind fun r4=>some r4)):=
 aq c50 [.p .tm] (by kernel_rfl) rfl (by kernel_rfl) (by kernel_rfl)
def ref08_Done(l1:(List Tm))(p2:Tm):Option (Ssequent×Int):=ans X 49 (.tup [.p .sequent,.p .int]) [.v .ltm l1,.v .tm p2]
theorem ref08_Done_eq(l1:(List Tm))(p2:Tm):ref08_Done l1 p2=(bif(decide ((64:Int)<(List.length l1:Int)))then some ((Ssequent.mk [] (Tm.mk 0 (⟨#[]⟩:ByteArray) (Ty.mk false (⟨#[]⟩:ByteArray) []) 0 [])),4)else some ((Ssequent.mk l1 p2),0)):=
 aq c49 [.p .sequent,.p .int] (by kernel_rfl) rfl (by kernel_rfl) (by kernel_rfl)
def ref08_Sym(a1:Ssequent):Option (Ssequent×Int):=ans X 14 (.tup [.p .sequent,.p .int]) [.v .sequent a1]
def equality_typeOf(t1:Tm):Option (Ty):=ans X 52 (.p .ty) [.v .tm t1]
theorem equality_typeOf_eq(t1:Tm):equality_typeOf t1=((terms_TypeOf t1).bind fun r2=>some r2.1):=
 aq c52 [.p .ty] (by kernel_rfl) rfl (by kernel_rfl) (by kernel_rfl)
def equality_accepts(f1:Ty)(t2:Ty):Option (Ty×Bool):=ans X 51 (.tup [.p .ty,.p .bool]) [.v .ty f1,.v .ty t2]
theorem equality_accepts_eq(f1:Ty)(t2:Ty):equality_accepts f1 t2=((types_DestFun f1).bind fun r3=>(bif r3.2.2 then((types_Same r3.1 t2).bind fun r4=>some (r3.2.1,r4))else some (r3.2.1,false))):=
 aq c51 [.p .ty,.p .bool] (by kernel_rfl) rfl (by kernel_rfl) (by kernel_rfl)
def equality_ApTerm(f1:Tm)(a2:Sthm):Option (Sthm×Int):=ans X 15 (.tup [.p .thm,.p .int]) [.v .tm f1,.v .thm a2]
def ref01_DestFun(t1:Ty):Option (Ty×Ty×Bool):=ans X 97 (.tup [.p .ty,.p .ty,.p .bool]) [.v .ty t1]
def ref01_DestFun.j1(t1:Ty)(s2:Bool):Option (Ty×Ty×Bool):=(bif s2 then some ((Ty.mk false (⟨#[]⟩:ByteArray) []),(Ty.mk false (⟨#[]⟩:ByteArray) []),false)else((ixL t1.a 0).bind fun e3=>((ref01_Twin e3).bind fun r4=>((ixL t1.a 1).bind fun e5=>((ref01_Twin e5).bind fun r6=>some (r4,r6,true))))))
theorem ref01_DestFun_eq(t1:Ty):ref01_DestFun t1=(jn (ref01_DestFun.j1 t1) (fun kk1=>(bif t1.v then(kk1 true)else(bif(!decide (t1.n=(⟨#[102,117,110]⟩:ByteArray)))then(kk1 true)else(kk1 (!decide ((List.length t1.a:Int)=(2:Int)))))))):=
 aq c97 [.p .ty,.p .ty,.p .bool] (by kernel_rfl) rfl (by kernel_rfl) (by kernel_rfl)
def ref08_takes(f1:Ty)(t2:Ty):Option (Ty×Bool):=ans X 53 (.tup [.p .ty,.p .bool]) [.v .ty f1,.v .ty t2]
theorem ref08_takes_eq(f1:Ty)(t2:Ty):ref08_takes f1 t2=((ref01_DestFun f1).bind fun r3=>(bif r3.2.2 then((ref01_Same r3.1 t2).bind fun r4=>some (r3.2.1,r4))else some (r3.2.1,false))):=
 aq c53 [.p .ty,.p .bool] (by kernel_rfl) rfl (by kernel_rfl) (by kernel_rfl)
def ref08_ApTerm(sig1:Ssignature)(f2:Tm)(a3:Ssequent):Option (Ssequent×Int):=ans X 16 (.tup [.p .sequent,.p .int]) [.v .signature sig1,.v .tm f2,.v .sequent a3]
def equality_ApThm(a1:Sthm)(t2:Tm):Option (Sthm×Int):=ans X 17 (.tup [.p .thm,.p .int]) [.v .thm a1,.v .tm t2]
def ref08_ApThm(sig1:Ssignature)(a2:Ssequent)(x3:Tm):Option (Ssequent×Int):=ans X 18 (.tup [.p .sequent,.p .int]) [.v .signature sig1,.v .sequent a2,.v .tm x3]
def ref02_SameAll(a1:(List Tm))(b2:(List Tm)):Option (Bool):=ans X 108 (.p .bool) [.v .ltm a1,.v .ltm b2]
def ref02_SameAll.s1(a1:(List Tm))(b2:(List Tm))(s3:Int)(next1:(Int)->Option (Bool)):Option (Bool):=(bif(decide (s3<(List.length a1:Int)))then((ixL a1 s3).bind fun e4=>((ixL b2 s3).bind fun e5=>((ref02_Same e4 e5).bind fun r6=>(bif(!r6)then some false else(next1 (s3+1))))))else some true)
theorem ref02_SameAll_eq(a1:(List Tm))(b2:(List Tm)):ref02_SameAll a1 b2=(bif(!decide ((List.length a1:Int)=(List.length b2:Int)))then some false else(loopN (ref02_SameAll.s1 a1 b2) 0)):=
 aq c108 [.p .bool] (by kernel_rfl) rfl (by kernel_rfl) (by kernel_rfl)
def ref08_Same(a1:Ssequent)(b2:Ssequent):Option (Bool):=ans X 61 (.p .bool) [.v .sequent a1,.v .sequent b2]
theorem ref08_Same_eq(a1:Ssequent)(b2:Ssequent):ref08_Same a1 b2=((ref02_SameAll a1.hyps b2.hyps).bind fun r3=>(bif r3 then((ref02_Same a1.concl b2.concl).bind fun r4=>some r4)else some false)):=
 aq c61 [.p .bool] (by kernel_rfl) rfl (by kernel_rfl) (by kernel_rfl)
def law08_Matches(a1:Sthm)(e2:Int)(want3:Ssequent)(f4:Int):Option (Bool):=ans X 24 (.p .bool) [.v .thm a1,.v .int e2,.v .sequent want3,.v .int f4]
theorem law08_Matches_eq(a1:Sthm)(e2:Int)(want3:Ssequent)(f4:Int):law08_Matches a1 e2 want3 f4=((kernel_Sequent a1).bind fun r5=>(bif(!decide (e2=f4))then some false else(bif(!decide (e2=(0:Int)))then some (decide (r5.2=(52:Int)))else(bif(decide (r5.2=(0:Int)))then((ref08_Same r5.1 want3).bind fun r6=>some r6)else some false)))):=
 aq c24 [.p .bool] (by kernel_rfl) rfl (by kernel_rfl) (by kernel_rfl)
def law08_EqualityRules(x1:Ssequent)(x2:Tm)(x3:Tm):Option (Bool):=ans X 3 (.p .bool) [.v .sequent x1,.v .tm x2,.v .tm x3]
def law08_EqualityRules.j2(r9:Tm×Tm×Int)(r10:Tm×Tm×Int)(r11:Sthm×Int)(r12:Ssequent×Int)(r13:Sthm×Int)(r14:Ssequent×Int)(r15:Sthm×Int)(r16:Ssequent×Int)(s17:Bool):Option (Bool):=(bif s17 then((ref02_Same r9.1 r10.1).bind fun r18=>(bif r18 then((ref02_Same r9.2.1 r10.2.1).bind fun r19=>(bif r19 then(bif(decide (r9.2.2=r10.2.2))then((law08_Matches r11.1 r11.2 r12.1 r12.2).bind fun r20=>(bif r20 then((law08_Matches r13.1 r13.2 r14.1 r14.2).bind fun r21=>(bif r21 then((law08_Matches r15.1 r15.2 r16.1 r16.2).bind fun r22=>some r22)else some false))else some false))else some false)else some false))else some false))else some false)
def law08_EqualityRules.j1(x1:Ssequent)(x2:Tm)(x3:Tm)(s4:Bool):Option (Bool):=(bif s4 then some true else((kernel_Initial).bind fun r5=>((law08_Made r5 x1).bind fun r6=>(bif(!r6.2)then some true else((law08_stated r6.1).bind fun r7=>((kernel_Signature r7.2).bind fun r8=>((equality_Sides r6.1).bind fun r9=>((ref08_Sides r7.1).bind fun r10=>((equality_Sym r6.1).bind fun r11=>((ref08_Sym r7.1).bind fun r12=>((equality_ApTerm x2 r6.1).bind fun r13=>((ref08_ApTerm r8.1 x2 r7.1).bind fun r14=>((equality_ApThm r6.1 x3).bind fun r15=>((ref08_ApThm r8.1 r7.1 x3).bind fun r16=>(jn (law08_EqualityRules.j2 r9 r10 r11 r12 r13 r14 r15 r16) (fun kk2=>((equality_CheckThm r6.1).bind fun r23=>((ref08_FitsSequent r7.1).bind fun r24=>(bif((decide (r23=(0:Int))) == r24)then((equality_CheckTerm x2).bind fun r25=>((ref08_CheckTerm x2).bind fun r26=>(kk2 (decide (r25=r26)))))else(kk2 false))))))))))))))))))))
def equality_Binop(x1:Tm)(x2:Sthm)(x3:Sthm):Option (Sthm×Int):=ans X 25 (.tup [.p .thm,.p .int]) [.v .tm x1,.v .thm x2,.v .thm x3]
theorem equality_Binop_eq(x1:Tm)(x2:Sthm)(x3:Sthm):equality_Binop x1 x2 x3=((equality_start [x1] [x2,x3]).bind fun r4=>(bif(!decide (r4.2=(0:Int)))then some ((Sthm.mk none none),r4.2)else((equality_equation x2).bind fun r5=>(bif(!decide (r5.2.2=(0:Int)))then some ((Sthm.mk none none),r5.2.2)else((equality_equation x3).bind fun r6=>(bif(!decide (r6.2.2=(0:Int)))then some ((Sthm.mk none none),r6.2.2)else((equality_typeOf x1).bind fun r7=>((equality_typeOf r5.1).bind fun r8=>((equality_accepts r7 r8).bind fun r9=>(bif(!r9.2)then some ((Sthm.mk none none),50)else((equality_typeOf r6.1).bind fun r10=>((equality_accepts r9.1 r10).bind fun r11=>(bif(!r11.2)then some ((Sthm.mk none none),50)else((equality_engine_refl r4.1 x1).bind fun r12=>((kernel_Comb r12 x2).bind fun r13=>(bif(!decide (r13.2=(0:Int)))then some ((Sthm.mk none none),r13.2)else((kernel_Comb r13.1 x3).bind fun r14=>some (r14.1,r14.2)))))))))))))))))):=
 aq c25 [.p .thm,.p .int] (by kernel_rfl) rfl (by kernel_rfl) (by kernel_rfl)
def ref08_With(l1:(List Tm))(t2:Tm):Option ((List Tm)):=ans X 109 (.p .ltm) [.v .ltm l1,.v .tm t2]
def ref08_With.j3(l1:(List Tm))(s6:Int×(List Tm)):Option ((List Tm)):=((slcL l1 s6.1 (List.length l1:Int) (List.length l1:Int)).bind fun l7=>(if List.length s6.2+List.length l7<=LIM then some (s6.2++l7)else none))
def ref08_With.j4(kk3:(Int×(List Tm))->Option ((List Tm)))(s3:Int×(List Tm))(s8:Bool×(List Tm)):Option ((List Tm)):=(bif s8.1 then(kk3 ((IntKind.i64.wrap (s3.1+1)),s8.2))else(kk3 (s3.1,s8.2)))
def ref08_With.j2(l1:(List Tm))(s3:Int×(List Tm))(next1:(Int×(List Tm))->Option ((List Tm)))(t2:Tm)(s4:Bool×(List Tm)):Option ((List Tm)):=(bif s4.1 then((ixL l1 s3.1).bind fun e5=>(if List.length s4.2+List.length [e5]<=LIM then(next1 ((IntKind.i64.wrap (s3.1+1)),(s4.2++[e5])))else none))else(if List.length s4.2+List.length [t2]<=LIM then(jn (ref08_With.j3 l1) (fun kk3=>(jn (ref08_With.j4 kk3 s3) (fun kk4=>(bif(decide (s3.1<(List.length l1:Int)))then((ixL l1 s3.1).bind fun e9=>((ref02_Same e9 t2).bind fun r10=>(kk4 (r10,(s4.2++[t2])))))else(kk4 (false,(s4.2++[t2]))))))))else none))
def ref08_With.s1(l1:(List Tm))(t2:Tm)(s3:Int×(List Tm))(next1:(Int×(List Tm))->Option ((List Tm))):Option ((List Tm)):=(jn (ref08_With.j2 l1 s3 next1 t2) (fun kk2=>(bif(decide (s3.1<(List.length l1:Int)))then((ixL l1 s3.1).bind fun e11=>((ref02_Compare e11 t2).bind fun r12=>(kk2 ((decide (r12<(0:Int))),s3.2))))else(kk2 (false,s3.2)))))
theorem ref08_With_eq(l1:(List Tm))(t2:Tm):ref08_With l1 t2=(loopN (ref08_With.s1 l1 t2) (0,[])):=
 aq c109 [.p .ltm] (by kernel_rfl) rfl (by kernel_rfl) (by kernel_rfl)
def ref08_Union(a1:(List Tm))(b2:(List Tm)):Option ((List Tm)):=ans X 62 (.p .ltm) [.v .ltm a1,.v .ltm b2]
def ref08_Union.s1(b2:(List Tm))(s3:(List Tm)×Int)(next1:((List Tm)×Int)->Option ((List Tm))):Option ((List Tm)):=(bif(decide (s3.2<(List.length b2:Int)))then((ixL b2 s3.2).bind fun e4=>((ref08_With s3.1 e4).bind fun r5=>(next1 (r5,(s3.2+1)))))else some s3.1)
theorem ref08_Union_eq(a1:(List Tm))(b2:(List Tm)):ref08_Union a1 b2=(if List.length ([]:List Tm)+List.length a1<=LIM then(loopN (ref08_Union.s1 b2) ((([]:List Tm)++a1),0))else none):=
 aq c62 [.p .ltm] (by kernel_rfl) rfl (by kernel_rfl) (by kernel_rfl)
def ref08_Binop(x1:Ssignature)(x2:Tm)(x3:Ssequent)(x4:Ssequent):Option (Ssequent×Int):=ans X 26 (.tup [.p .sequent,.p .int]) [.v .signature x1,.v .tm x2,.v .sequent x3,.v .sequent x4]
def ref08_Binop.j1(x2:Tm)(r6:Tm×Tm×Bool)(r7:Tm×Tm×Bool)(x3:Ssequent)(x4:Ssequent)(s8:Bool):Option (Ssequent×Int):=(bif s8 then some ((Ssequent.mk [] (Tm.mk 0 (⟨#[]⟩:ByteArray) (Ty.mk false (⟨#[]⟩:ByteArray) []) 0 [])),50)else((ref02_Type x2).bind fun r9=>((ref02_Type r6.1).bind fun r10=>((ref08_takes r9 r10).bind fun r11=>(bif(!r11.2)then some ((Ssequent.mk [] (Tm.mk 0 (⟨#[]⟩:ByteArray) (Ty.mk false (⟨#[]⟩:ByteArray) []) 0 [])),50)else((ref02_Type r7.1).bind fun r12=>((ref08_takes r11.1 r12).bind fun r13=>(bif(!r13.2)then some ((Ssequent.mk [] (Tm.mk 0 (⟨#[]⟩:ByteArray) (Ty.mk false (⟨#[]⟩:ByteArray) []) 0 [])),50)else((ref08_Union x3.hyps x4.hyps).bind fun r14=>((ref02_App x2 r6.1).bind fun r15=>((ref02_App r15 r7.1).bind fun r16=>((ref02_App x2 r6.2.1).bind fun r17=>((ref02_App r17 r7.2.1).bind fun r18=>((ref08_Equate r16 r18).bind fun r19=>((ref08_Done r14 r19).bind fun r20=>some (r20.1,r20.2))))))))))))))))
theorem ref08_Binop_eq(x1:Ssignature)(x2:Tm)(x3:Ssequent)(x4:Ssequent):ref08_Binop x1 x2 x3 x4=((ref08_Args x1 [x2] [x3,x4]).bind fun r5=>(bif(!decide (r5=(0:Int)))then some ((Ssequent.mk [] (Tm.mk 0 (⟨#[]⟩:ByteArray) (Ty.mk false (⟨#[]⟩:ByteArray) []) 0 [])),r5)else((ref02_IsEq x3.concl).bind fun r6=>((ref02_IsEq x4.concl).bind fun r7=>(jn (ref08_Binop.j1 x2 r6 r7 x3 x4) (fun kk1=>(bif(!r6.2.2)then(kk1 true)else(kk1 (!r7.2.2))))))))):=
 aq c26 [.p .sequent,.p .int] (by kernel_rfl) rfl (by kernel_rfl) (by kernel_rfl)
def kernel_Trans(x1:Sthm)(x2:Sthm):Option (Sthm×Int):=ans X 64 (.tup [.p .thm,.p .int]) [.v .thm x1,.v .thm x2]
def kernel_Trans.j1(r5:Tm×Tm×Ty×Bool)(r7:Tm×Tm×Ty×Bool)(x1:Sthm)(x2:Sthm)(r3:(Option Nnode)×Int)(s8:Bool):Option (Sthm×Int):=(bif s8 then some ((Sthm.mk none none),50)else((kernel_equation r5.1 r7.2.1 r5.2.2.1).bind fun r9=>(x1.seq.bind fun p10=>(x2.seq.bind fun p11=>((kernel_union [p10.hyps,p11.hyps]).bind fun r12=>((kernel_done r3.1 r12 r9.1 r9.2).bind fun r13=>some (r13.1,r13.2)))))))
theorem kernel_Trans_eq(x1:Sthm)(x2:Sthm):kernel_Trans x1 x2=((kernel_related x1 x2).bind fun r3=>(bif(!decide (r3.2=(0:Int)))then some ((Sthm.mk none none),r3.2)else(x1.seq.bind fun p4=>((kernel_sides p4.concl).bind fun r5=>(x2.seq.bind fun p6=>((kernel_sides p6.concl).bind fun r7=>(jn (kernel_Trans.j1 r5 r7 x1 x2 r3) (fun kk1=>(bif(!r5.2.2.2)then(kk1 true)else(bif(!r7.2.2.2)then(kk1 true)else((terms_Same r5.2.1 r7.1).bind fun r14=>(kk1 (!r14))))))))))))):=
 aq c64 [.p .thm,.p .int] (by kernel_rfl) rfl (by kernel_rfl) (by kernel_rfl)
def equality_Chain(x1:(List Sthm)):Option (Sthm×Int):=ans X 27 (.tup [.p .thm,.p .int]) [.v .lthm x1]
def equality_Chain.s2(l11:(List Sthm))(s12:Int×Sthm×Sthm)(next2:(Int×Sthm×Sthm)->Option (Sthm×Int)):Option (Sthm×Int):=(bif(decide (s12.1<(List.length l11:Int)))then((ixL l11 s12.1).bind fun e13=>((kernel_Trans s12.2.2 e13).bind fun r14=>(bif(!decide (r14.2=(0:Int)))then some ((Sthm.mk none none),r14.2)else(next2 ((s12.1+1),s12.2.1,r14.1)))))else some (s12.2.2,0))
def equality_Chain.s1(l5:(List Sthm))(x1:(List Sthm))(s6:Int×Sthm×Tm)(next1:(Int×Sthm×Tm)->Option (Sthm×Int)):Option (Sthm×Int):=(bif(decide (s6.1<(List.length l5:Int)))then((ixL l5 s6.1).bind fun e7=>((equality_equation e7).bind fun r8=>(bif(!decide (r8.2.2=(0:Int)))then some ((Sthm.mk none none),r8.2.2)else((terms_Same r8.1 s6.2.2).bind fun r9=>(bif(!r9)then some ((Sthm.mk none none),50)else(next1 ((s6.1+1),s6.2.1,r8.2.1)))))))else((ixL x1 0).bind fun e10=>((slcL x1 1 (List.length x1:Int) (List.length x1:Int)).bind fun l11=>(loopN (equality_Chain.s2 l11) (0,s6.2.1,e10)))))
theorem equality_Chain_eq(x1:(List Sthm)):equality_Chain x1=(bif(decide ((List.length x1:Int)=(0:Int)))then some ((Sthm.mk none none),50)else((equality_start [] x1).bind fun r2=>(bif(!decide (r2.2=(0:Int)))then some ((Sthm.mk none none),r2.2)else((ixL x1 0).bind fun e3=>((equality_equation e3).bind fun r4=>(bif(!decide (r4.2.2=(0:Int)))then some ((Sthm.mk none none),r4.2.2)else((slcL x1 1 (List.length x1:Int) (List.length x1:Int)).bind fun l5=>(loopN (equality_Chain.s1 l5 x1) (0,(Sthm.mk none none),r4.2.1))))))))):=
 aq c27 [.p .thm,.p .int] (by kernel_rfl) rfl (by kernel_rfl) (by kernel_rfl)
def ref08_Chain(x1:(List Ssequent)):Option (Ssequent×Int):=ans X 28 (.tup [.p .sequent,.p .int]) [.v .lsequent x1]
def ref08_Chain.j2(x1:(List Ssequent))(s6:(List Tm)×Int×Ssequent×Tm)(next1:((List Tm)×Int×Ssequent×Tm)->Option (Ssequent×Int))(r8:Tm×Tm×Bool)(s9:Bool):Option (Ssequent×Int):=(bif s9 then some ((Ssequent.mk [] (Tm.mk 0 (⟨#[]⟩:ByteArray) (Ty.mk false (⟨#[]⟩:ByteArray) []) 0 [])),50)else((ixL x1 s6.2.1).bind fun e10=>((ref08_Union s6.1 e10.hyps).bind fun r11=>(next1 (r11,(s6.2.1+1),s6.2.2.1,r8.2.1)))))
def ref08_Chain.s1(x1:(List Ssequent))(r4:Tm×Tm×Bool)(s6:(List Tm)×Int×Ssequent×Tm)(next1:((List Tm)×Int×Ssequent×Tm)->Option (Ssequent×Int)):Option (Ssequent×Int):=(bif(decide (s6.2.1<(List.length x1:Int)))then((ixL x1 s6.2.1).bind fun e7=>((ref02_IsEq e7.concl).bind fun r8=>(jn (ref08_Chain.j2 x1 s6 next1 r8) (fun kk2=>(bif(!r8.2.2)then(kk2 true)else((ref02_Same r8.1 s6.2.2.2).bind fun r12=>(kk2 (!r12))))))))else((ref08_Equate r4.1 s6.2.2.2).bind fun r13=>((ref08_Done s6.1 r13).bind fun r14=>some (r14.1,r14.2))))
theorem ref08_Chain_eq(x1:(List Ssequent)):ref08_Chain x1=(bif(decide ((List.length x1:Int)=(0:Int)))then some ((Ssequent.mk [] (Tm.mk 0 (⟨#[]⟩:ByteArray) (Ty.mk false (⟨#[]⟩:ByteArray) []) 0 [])),50)else((ref08_Args (Ssignature.mk [] []) [] x1).bind fun r2=>(bif(!decide (r2=(0:Int)))then some ((Ssequent.mk [] (Tm.mk 0 (⟨#[]⟩:ByteArray) (Ty.mk false (⟨#[]⟩:ByteArray) []) 0 [])),r2)else((ixL x1 0).bind fun e3=>((ref02_IsEq e3.concl).bind fun r4=>(bif(!r4.2.2)then some ((Ssequent.mk [] (Tm.mk 0 (⟨#[]⟩:ByteArray) (Ty.mk false (⟨#[]⟩:ByteArray) []) 0 [])),50)else((ixL x1 0).bind fun e5=>(loopN (ref08_Chain.s1 x1 r4) (e5.hyps,1,(Ssequent.mk [] (Tm.mk 0 (⟨#[]⟩:ByteArray) (Ty.mk false (⟨#[]⟩:ByteArray) []) 0 [])),r4.2.1))))))))):=
 aq c28 [.p .sequent,.p .int] (by kernel_rfl) rfl (by kernel_rfl) (by kernel_rfl)
def equality_ProveHyp(a1:Sthm)(b2:Sthm):Option (Sthm×Int):=ans X 29 (.tup [.p .thm,.p .int]) [.v .thm a1,.v .thm b2]
theorem equality_ProveHyp_eq(a1:Sthm)(b2:Sthm):equality_ProveHyp a1 b2=((equality_start [] [a1,b2]).bind fun r3=>(bif(!decide (r3.2=(0:Int)))then some ((Sthm.mk none none),r3.2)else((kernel_Deduct a1 b2).bind fun r4=>(bif(!decide (r4.2=(0:Int)))then some ((Sthm.mk none none),r4.2)else((kernel_EqMp r4.1 a1).bind fun r5=>some (r5.1,r5.2)))))):=
 aq c29 [.p .thm,.p .int] (by kernel_rfl) rfl (by kernel_rfl) (by kernel_rfl)
def ref08_Without(l1:(List Tm))(t2:Tm):Option ((List Tm)):=ans X 66 (.p .ltm) [.v .ltm l1,.v .tm t2]
def ref08_Without.j2(next1:(Int×(List Tm))->Option ((List Tm)))(s3:Int×(List Tm))(s4:(List Tm)):Option ((List Tm)):=(next1 ((s3.1+1),s4))
def ref08_Without.s1(l1:(List Tm))(t2:Tm)(s3:Int×(List Tm))(next1:(Int×(List Tm))->Option ((List Tm))):Option ((List Tm)):=(bif(decide (s3.1<(List.length l1:Int)))then(jn (ref08_Without.j2 next1 s3) (fun kk2=>((ixL l1 s3.1).bind fun e5=>((ref02_Same e5 t2).bind fun r6=>(bif(!r6)then((ixL l1 s3.1).bind fun e7=>(if List.length s3.2+List.length [e7]<=LIM then(kk2 (s3.2++[e7]))else none))else(kk2 s3.2))))))else some s3.2)
theorem ref08_Without_eq(l1:(List Tm))(t2:Tm):ref08_Without l1 t2=(loopN (ref08_Without.s1 l1 t2) (0,[])):=
 aq c66 [.p .ltm] (by kernel_rfl) rfl (by kernel_rfl) (by kernel_rfl)
def ref08_ProveHyp(a1:Ssequent)(b2:Ssequent):Option (Ssequent×Int):=ans X 30 (.tup [.p .sequent,.p .int]) [.v .sequent a1,.v .sequent b2]
theorem ref08_ProveHyp_eq(a1:Ssequent)(b2:Ssequent):ref08_ProveHyp a1 b2=((ref08_Args (Ssignature.mk [] []) [] [a1,b2]).bind fun r3=>(bif(!decide (r3=(0:Int)))then some ((Ssequent.mk [] (Tm.mk 0 (⟨#[]⟩:ByteArray) (Ty.mk false (⟨#[]⟩:ByteArray) []) 0 [])),r3)else((ref08_Without b2.hyps a1.concl).bind fun r4=>((ref08_Union a1.hyps r4).bind fun r5=>((ref08_Done r5 b2.concl).bind fun r6=>some (r6.1,r6.2)))))):=
 aq c30 [.p .sequent,.p .int] (by kernel_rfl) rfl (by kernel_rfl) (by kernel_rfl)
def law08_EqualityJoins(x1:Tm)(x2:Ssequent)(x3:Ssequent)(x4:Ssequent):Option (Bool):=ans X 4 (.p .bool) [.v .tm x1,.v .sequent x2,.v .sequent x3,.v .sequent x4]
def law08_EqualityJoins.j2(r6:Stheory)(r7:Sthm×Bool)(r8:Sthm×Bool)(r9:Sthm×Bool)(x1:Tm)(s10:Bool):Option (Bool):=(bif s10 then some true else((kernel_Signature r6).bind fun r11=>((law08_stated r7.1).bind fun r12=>((law08_stated r8.1).bind fun r13=>((law08_stated r9.1).bind fun r14=>((equality_Binop x1 r7.1 r8.1).bind fun r15=>((ref08_Binop r11.1 x1 r12.1 r13.1).bind fun r16=>((equality_Chain [r7.1,r8.1,r9.1]).bind fun r17=>((ref08_Chain [r12.1,r13.1,r14.1]).bind fun r18=>((equality_ProveHyp r7.1 r8.1).bind fun r19=>((ref08_ProveHyp r12.1 r13.1).bind fun r20=>((equality_Chain [r7.1]).bind fun r21=>((ref08_Chain [r12.1]).bind fun r22=>((law08_Matches r15.1 r15.2 r16.1 r16.2).bind fun r23=>(bif r23 then((law08_Matches r17.1 r17.2 r18.1 r18.2).bind fun r24=>(bif r24 then((law08_Matches r19.1 r19.2 r20.1 r20.2).bind fun r25=>(bif r25 then((law08_Matches r21.1 r21.2 r22.1 r22.2).bind fun r26=>some r26)else some false))else some false))else some false)))))))))))))))
def law08_EqualityJoins.j1(x2:Ssequent)(x3:Ssequent)(x4:Ssequent)(x1:Tm)(s5:Bool):Option (Bool):=(bif s5 then some true else((kernel_Initial).bind fun r6=>((law08_Made r6 x2).bind fun r7=>((law08_Made r6 x3).bind fun r8=>((law08_Made r6 x4).bind fun r9=>(jn (law08_EqualityJoins.j2 r6 r7 r8 r9 x1) (fun kk2=>(bif(!r7.2)then(kk2 true)else(bif(!r8.2)then(kk2 true)else(kk2 (!r9.2)))))))))))
theorem law08_EqualityJoins_eq(x1:Tm)(x2:Ssequent)(x3:Ssequent)(x4:Ssequent):law08_EqualityJoins x1 x2 x3 x4=(jn (law08_EqualityJoins.j1 x2 x3 x4 x1) (fun kk1=>((ref08_Great x2).bind fun r27=>(bif r27 then(kk1 true)else((ref08_Great x3).bind fun r28=>(bif r28 then(kk1 true)else((ref08_Great x4).bind fun r29=>(bif r29 then(kk1 true)else((ref02_Great x1).bind fun r30=>(kk1 r30)))))))))):=
 aq c4 [.p .bool] (by kernel_rfl) rfl (by kernel_rfl) (by kernel_rfl)
end
end Go.Ab.X
