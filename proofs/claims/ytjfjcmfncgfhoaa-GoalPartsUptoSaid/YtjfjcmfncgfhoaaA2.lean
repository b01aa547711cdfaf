/- A part of the proof: A2. -/
import Derived.Test.YtjfjcmfncgfhoaaUX
set_option linter.all false
set_option linter.all false
set_option maxRecDepth 100000
set_option maxHeartbeats 4000000
namespace Go.Ab.X
open Go.RowKit Go.Ab
/-- sequent/sequentref02.sign -/
noncomputable def ref02_sign (less1 : Bool) (same2 : Bool) : Option (Int) := ans X 79 (.p .int) [.v .bool less1, .v .bool same2]
theorem ref02_sign_eq (less1 : Bool) (same2 : Bool) : ref02_sign less1 same2 = (bif same2 then some 0 else (bif less1 then some (-1) else some 1)) :=
  (ans_eq G_ok (x := c79) (l := [.p .int]) (by kernel_rfl) rfl (by kernel_rfl)).trans (by kernel_rfl)
/-- sequent/types.Bool -/
noncomputable def types_Bool : Option (Ty) := ans X 82 (.p .ty) []
theorem types_Bool_eq : types_Bool = some (Ty.mk false (⟨#[98, 111, 111, 108]⟩ : ByteArray) []) :=
  (ans_eq G_ok (x := c82) (l := [.p .ty]) (by kernel_rfl) rfl (by kernel_rfl)).trans (by kernel_rfl)
/-- sequent/sequentref01.Bool -/
noncomputable def ref01_Bool : Option (Ty) := ans X 74 (.p .ty) []
theorem ref01_Bool_eq : ref01_Bool = some (Ty.mk false (⟨#[98, 111, 111, 108]⟩ : ByteArray) []) :=
  (ans_eq G_ok (x := c74) (l := [.p .ty]) (by kernel_rfl) rfl (by kernel_rfl)).trans (by kernel_rfl)
/-- sequent/prove.Bool -/
noncomputable def prove_Bool : Option (Ty) := ans X 45 (.p .ty) []
theorem prove_Bool_eq : prove_Bool = (Option.bind (types_Bool) fun (r1 : Ty) => some r1) :=
  (ans_eq G_ok (x := c45) (l := [.p .ty]) (by kernel_rfl) rfl (by kernel_rfl)).trans (by kernel_rfl)
/-- cmp.isNaN[int] -/
noncomputable def isNaN_int (x1 : Int) : Option (Bool) := ans X 115 (.p .bool) [.v .int x1]
theorem isNaN_int_eq (x1 : Int) : isNaN_int x1 = some (!decide (x1 = x1)) :=
  (ans_eq G_ok (x := c115) (l := [.p .bool]) (by kernel_rfl) rfl (by kernel_rfl)).trans (by kernel_rfl)
/-- cmp.isNaN[uint8] -/
noncomputable def isNaN_u8 (x1 : Int) : Option (Bool) := ans X 113 (.p .bool) [.v .u8 x1]
theorem isNaN_u8_eq (x1 : Int) : isNaN_u8 x1 = some (!decide (x1 = x1)) :=
  (ans_eq G_ok (x := c113) (l := [.p .bool]) (by kernel_rfl) rfl (by kernel_rfl)).trans (by kernel_rfl)
/-- cmp.Compare[int] -/
noncomputable def cmp_int (x1 : Int) (y2 : Int) : Option (Int) := ans X 96 (.p .int) [.v .int x1, .v .int y2]
theorem cmp_int_eq (x1 : Int) (y2 : Int) : cmp_int x1 y2 = (Option.bind (isNaN_int x1) fun (r3 : Bool) => (Option.bind (isNaN_int y2) fun (r4 : Bool) => (bif r3 then (bif r4 then some 0 else some (-1)) else (bif r4 then some 1 else (bif (decide (x1 < y2)) then some (-1) else (bif (decide (y2 < x1)) then some 1 else some 0)))))) :=
  (ans_eq G_ok (x := c96) (l := [.p .int]) (by kernel_rfl) rfl (by kernel_rfl)).trans (by kernel_rfl)
/-- cmp.Compare[uint8] -/
noncomputable def cmp_u8 (x1 : Int) (y2 : Int) : Option (Int) := ans X 93 (.p .int) [.v .u8 x1, .v .u8 y2]
theorem cmp_u8_eq (x1 : Int) (y2 : Int) : cmp_u8 x1 y2 = (Option.bind (isNaN_u8 x1) fun (r3 : Bool) => (Option.bind (isNaN_u8 y2) fun (r4 : Bool) => (bif r3 then (bif r4 then some 0 else some (-1)) else (bif r4 then some 1 else (bif (decide (x1 < y2)) then some (-1) else (bif (decide (y2 < x1)) then some 1 else some 0)))))) :=
  (ans_eq G_ok (x := c93) (l := [.p .int]) (by kernel_rfl) rfl (by kernel_rfl)).trans (by kernel_rfl)
/-- cmp.Or[int] -/
noncomputable def cmp_Or (vals1 : (List Int)) : Option (Int) := ans X 95 (.p .int) [.v .lint vals1]
noncomputable def cmp_Or.s1 (vals1 : (List Int)) (s2 : Int) (next1 : (Int) → Option (Int)) : Option (Int) := (bif (decide (s2 < (List.length vals1 : Int))) then (Option.bind (ixL vals1 s2) fun e3 => (bif (!decide (e3 = (0 : Int))) then some e3 else (next1 (s2 + 1)))) else some 0)
theorem cmp_Or_eq (vals1 : (List Int)) : cmp_Or vals1 = (loopN (cmp_Or.s1 vals1) 0) :=
  (ans_eq G_ok (x := c95) (l := [.p .int]) (by kernel_rfl) rfl (by kernel_rfl)).trans (by kernel_rfl)
/-- sequent/types.rank -/
noncomputable def types_rank (t1 : Ty) : Option (Int) := ans X 107 (.p .int) [.v .ty t1]
theorem types_rank_eq (t1 : Ty) : types_rank t1 = (bif t1.v then some 0 else some 1) :=
  (ans_eq G_ok (x := c107) (l := [.p .int]) (by kernel_rfl) rfl (by kernel_rfl)).trans (by kernel_rfl)
/-- sequent/sequentref01.Size -/
noncomputable def ref01_Size (t1 : Ty) : Option (Int) := ans X 136 (.p .int) [.v .ty t1]
noncomputable def ref01_Size.s1 (t1 : Ty) (s2 : Int × Int) (next1 : (Int × Int) → Option (Int)) : Option (Int) := (bif (decide (s2.2 < (List.length t1.a : Int))) then (Option.bind (ixL t1.a s2.2) fun e3 => (Option.bind (ref01_Size e3) fun (r4 : Int) => (next1 ((IntKind.i64.wrap (s2.1 + r4)), (s2.2 + 1))))) else some s2.1)
theorem ref01_Size_eq (t1 : Ty) : ref01_Size t1 = (loopN (ref01_Size.s1 t1) (1, 0)) :=
  (ans_eq G_ok (x := c136) (l := [.p .int]) (by kernel_rfl) rfl (by kernel_rfl)).trans (by kernel_rfl)
/-- sequent/sequentref01.Depth -/
noncomputable def ref01_Depth (t1 : Ty) : Option (Int) := ans X 137 (.p .int) [.v .ty t1]
noncomputable def ref01_Depth.s1 (t1 : Ty) (s2 : Int × Int) (next1 : (Int × Int) → Option (Int)) : Option (Int) := (bif (decide (s2.2 < (List.length t1.a : Int))) then (Option.bind (ixL t1.a s2.2) fun e3 => (Option.bind (ref01_Depth e3) fun (r4 : Int) => (next1 ((max s2.1 r4), (s2.2 + 1))))) else some (IntKind.i64.wrap (1 + s2.1)))
theorem ref01_Depth_eq (t1 : Ty) : ref01_Depth t1 = (loopN (ref01_Depth.s1 t1) (0, 0)) :=
  (ans_eq G_ok (x := c137) (l := [.p .int]) (by kernel_rfl) rfl (by kernel_rfl)).trans (by kernel_rfl)
/-- sequent/types.Twin -/
noncomputable def types_Twin (t1 : Ty) : Option (Ty) := ans X 81 (.p .ty) [.v .ty t1]
noncomputable def types_Twin.s2 (t1 : Ty) (s2 : Bool × ByteArray × (List Ty)) (s3 : Int × (List Ty)) (next2 : (Int × (List Ty)) → Option (Ty)) : Option (Ty) := (bif (decide (s3.1 < (List.length t1.a : Int))) then (Option.bind (ixL t1.a s3.1) fun e4 => (Option.bind (types_Twin e4) fun (r5 : Ty) => (if 0 ≤ s3.1 ∧ s3.1 < (List.length s3.2 : Int) then (if (Int.toNat s3.1) < List.length s3.2 then (next2 ((s3.1 + 1), (List.set s3.2 (Int.toNat s3.1) r5))) else none) else none))) else some (Ty.mk s2.1 s2.2.1 s3.2))
noncomputable def types_Twin.j1 (t1 : Ty) (s2 : Bool × ByteArray × (List Ty)) : Option (Ty) := (loopN (types_Twin.s2 t1 s2) (0, s2.2.2))
theorem types_Twin_eq (t1 : Ty) : types_Twin t1 = (jn (types_Twin.j1 t1) (fun kk1 => (bif (decide ((0 : Int) < (List.length t1.a : Int))) then (if 0 ≤ (List.length t1.a : Int) ∧ Int.toNat (List.length t1.a : Int) ≤ LIM then (kk1 (t1.v, t1.n, (List.replicate (Int.toNat (List.length t1.a : Int)) (Ty.mk false (⟨#[]⟩ : ByteArray) [])))) else none) else (kk1 (t1.v, t1.n, []))))) :=
  (ans_eq G_ok (x := c81) (l := [.p .ty]) (by kernel_rfl) rfl (by kernel_rfl)).trans (by kernel_rfl)
/-- sequent/sequentref01.Compare -/
noncomputable def ref01_Compare (a1 : Ty) (b2 : Ty) : Option (Int) := ans X 80 (.p .int) [.v .ty a1, .v .ty b2]
noncomputable def ref01_Compare.s1 (a1 : Ty) (b2 : Ty) (s3 : Int) (next1 : (Int) → Option (Int)) : Option (Int) := (bif (decide (s3 < (List.length a1.a : Int))) then (Option.bind (ixL a1.a s3) fun e4 => (Option.bind (ixL b2.a s3) fun e5 => (Option.bind (ref01_Compare e4 e5) fun (r6 : Int) => (bif (!decide (r6 = (0 : Int))) then some r6 else (next1 (s3 + 1)))))) else some 0)
theorem ref01_Compare_eq (a1 : Ty) (b2 : Ty) : ref01_Compare a1 b2 = (bif (!(a1.v == b2.v)) then (bif a1.v then some (-1) else some 1) else (bif (!decide (a1.n = b2.n)) then (bif (blt a1.n b2.n) then some (-1) else some 1) else (bif (!decide ((List.length a1.a : Int) = (List.length b2.a : Int))) then (bif (decide ((List.length a1.a : Int) < (List.length b2.a : Int))) then some (-1) else some 1) else (loopN (ref01_Compare.s1 a1 b2) 0)))) :=
  (ans_eq G_ok (x := c80) (l := [.p .int]) (by kernel_rfl) rfl (by kernel_rfl)).trans (by kernel_rfl)
/-- sequent/sequentref01.Same -/
noncomputable def ref01_Same (a1 : Ty) (b2 : Ty) : Option (Bool) := ans X 53 (.p .bool) [.v .ty a1, .v .ty b2]
theorem ref01_Same_eq (a1 : Ty) (b2 : Ty) : ref01_Same a1 b2 = (Option.bind (ref01_Compare a1 b2) fun (r3 : Int) => some (decide (r3 = (0 : Int)))) :=
  (ans_eq G_ok (x := c53) (l := [.p .bool]) (by kernel_rfl) rfl (by kernel_rfl)).trans (by kernel_rfl)
/-- internal/bytealg.CompareString -/
noncomputable def cmpS (a1 : ByteArray) (b2 : ByteArray) : Option (Int) := ans X 114 (.p .int) [.v .str a1, .v .str b2]
theorem cmpS_eq (a1 : ByteArray) (b2 : ByteArray) : cmpS a1 b2 = dcR (.p .int : Sh G) (pCmp [] [.v .str a1, .v .str b2]) := ans_prim (by kernel_rfl)
/-- strings.Compare -/
noncomputable def strings_Compare (a1 : ByteArray) (b2 : ByteArray) : Option (Int) := ans X 94 (.p .int) [.v .str a1, .v .str b2]
theorem strings_Compare_eq (a1 : ByteArray) (b2 : ByteArray) : strings_Compare a1 b2 = (Option.bind (cmpS a1 b2) fun (r3 : Int) => some r3) :=
  (ans_eq G_ok (x := c94) (l := [.p .int]) (by kernel_rfl) rfl (by kernel_rfl)).trans (by kernel_rfl)
/-- slices.CompareFunc[[]sequent/api.Type,[]sequent/api.Type,sequent/api.Type,sequent/api.Type] -/
noncomputable def CompareFunc_ty (s11 : (List Ty)) (s22 : (List Ty)) (cmp3 : Nat) : Option (Int) := ans X 108 (.p .int) [.v .lty s11, .v .lty s22, .fn cmp3 [] []]
noncomputable def CompareFunc_ty.s1 (s11 : (List Ty)) (s22 : (List Ty)) (cmp3 : Nat) (s4 : Int) (next1 : (Int) → Option (Int)) : Option (Int) := (bif (decide (s4 < (List.length s11 : Int))) then (Option.bind (ixL s11 s4) fun e5 => (bif (decide ((List.length s22 : Int) ≤ s4)) then some 1 else (Option.bind (ixL s22 s4) fun e6 => (Option.bind (tyo Int (ans X cmp3 (.p .int) [.v .ty e5, .v .ty e6])) fun (r7 : Int) => (bif (!decide (r7 = (0 : Int))) then some r7 else (next1 (s4 + 1))))))) else (bif (decide ((List.length s11 : Int) < (List.length s22 : Int))) then some (-1) else some 0))
theorem CompareFunc_ty_eq (s11 : (List Ty)) (s22 : (List Ty)) (cmp3 : Nat) : CompareFunc_ty s11 s22 cmp3 = (loopN (CompareFunc_ty.s1 s11 s22 cmp3) 0) :=
  (ans_eq G_ok (x := c108) (l := [.p .int]) (by kernel_rfl) rfl (by kernel_rfl)).trans (by kernel_rfl)
/-- sequent/types.Compare -/
noncomputable def types_Compare (a1 : Ty) (b2 : Ty) : Option (Int) := ans X 86 (.p .int) [.v .ty a1, .v .ty b2]
theorem types_Compare_eq (a1 : Ty) (b2 : Ty) : types_Compare a1 b2 = (Option.bind (types_rank a1) fun (r3 : Int) => (Option.bind (types_rank b2) fun (r4 : Int) => (Option.bind (cmp_int r3 r4) fun (r5 : Int) => (Option.bind (strings_Compare a1.n b2.n) fun (r6 : Int) => (Option.bind (cmp_int (List.length a1.a : Int) (List.length b2.a : Int)) fun (r7 : Int) => (Option.bind (cmp_Or [r5, r6, r7]) fun (r8 : Int) => (bif (!decide (r8 = (0 : Int))) then some r8 else (Option.bind (CompareFunc_ty a1.a b2.a 86) fun (r9 : Int) => some r9)))))))) :=
  (ans_eq G_ok (x := c86) (l := [.p .int]) (by kernel_rfl) rfl (by kernel_rfl)).trans (by kernel_rfl)
/-- sequent/types.Same -/
noncomputable def types_Same (a1 : Ty) (b2 : Ty) : Option (Bool) := ans X 51 (.p .bool) [.v .ty a1, .v .ty b2]
theorem types_Same_eq (a1 : Ty) (b2 : Ty) : types_Same a1 b2 = (Option.bind (types_Compare a1 b2) fun (r3 : Int) => some (decide (r3 = (0 : Int)))) :=
  (ans_eq G_ok (x := c51) (l := [.p .bool]) (by kernel_rfl) rfl (by kernel_rfl)).trans (by kernel_rfl)
/-- sequent/sequentref02.Compare -/
noncomputable def ref02_Compare (x1 : Tm) (x2 : Tm) : Option (Int) := ans X 43 (.p .int) [.v .tm x1, .v .tm x2]
noncomputable def ref02_Compare.j6 (x1 : Tm) (s8 : Int × Int) (x2 : Tm) (next5 : (Int × Int) → Option (Int)) (s9 : Bool) : Option (Int) := (bif s9 then (Option.bind (ixL x1.s s8.2) fun e10 => (Option.bind (ixL x2.s s8.2) fun e11 => (Option.bind (ref02_Compare e10 e11) fun (r12 : Int) => (next5 (r12, (IntKind.i64.wrap (s8.2 + 1))))))) else some s8.1)
noncomputable def ref02_Compare.s5 (x1 : Tm) (x2 : Tm) (s8 : Int × Int) (next5 : (Int × Int) → Option (Int)) : Option (Int) := (jn (ref02_Compare.j6 x1 s8 x2 next5) (fun kk6 => (bif (decide (s8.1 = (0 : Int))) then (kk6 (decide (s8.2 < (List.length x1.s : Int)))) else (kk6 false))))
noncomputable def ref02_Compare.j4 (s5 : Int) (x1 : Tm) (x2 : Tm) (s7 : Int) : Option (Int) := (loopN (ref02_Compare.s5 x1 x2) (s7, 0))
noncomputable def ref02_Compare.j3 (s5 : Int) (x1 : Tm) (x2 : Tm) (s6 : Int) : Option (Int) := (jn (ref02_Compare.j4 s5 x1 x2) (fun kk4 => (bif (decide (s6 = (0 : Int))) then (Option.bind (ref02_sign (decide ((List.length x1.s : Int) < (List.length x2.s : Int))) (decide ((List.length x1.s : Int) = (List.length x2.s : Int)))) fun (r13 : Int) => (kk4 r13)) else (kk4 s6))))
noncomputable def ref02_Compare.j2 (x1 : Tm) (x2 : Tm) (s5 : Int) : Option (Int) := (jn (ref02_Compare.j3 s5 x1 x2) (fun kk3 => (bif (decide (s5 = (0 : Int))) then (Option.bind (ref02_sign (decide (x1.i < x2.i)) (decide (x1.i = x2.i))) fun (r14 : Int) => (kk3 r14)) else (kk3 s5))))
noncomputable def ref02_Compare.j1 (x1 : Tm) (x2 : Tm) (s4 : Int) : Option (Int) := (jn (ref02_Compare.j2 x1 x2) (fun kk2 => (bif (decide (s4 = (0 : Int))) then (Option.bind (ref01_Compare x1.y x2.y) fun (r15 : Int) => (kk2 r15)) else (kk2 s4))))
noncomputable def ref02_Compare.j7 (x1 : Tm) (x2 : Tm) (kk1 : (Int) → Option (Int)) (r3 : Int) (s16 : Bool) : Option (Int) := (bif s16 then (Option.bind (ref02_sign (blt x1.n x2.n) (decide (x1.n = x2.n))) fun (r17 : Int) => (kk1 r17)) else (kk1 r3))
theorem ref02_Compare_eq (x1 : Tm) (x2 : Tm) : ref02_Compare x1 x2 = (Option.bind (ref02_sign (decide (x1.k < x2.k)) (decide (x1.k = x2.k))) fun (r3 : Int) => (jn (ref02_Compare.j1 x1 x2) (fun kk1 => (jn (ref02_Compare.j7 x1 x2 kk1 r3) (fun kk7 => (bif (decide (r3 = (0 : Int))) then (kk7 (!decide (x1.k = (5 : Int)))) else (kk7 false))))))) :=
  (ans_eq G_ok (x := c43) (l := [.p .int]) (by kernel_rfl) rfl (by kernel_rfl)).trans (by kernel_rfl)
/-- sequent/sequentref02.Same -/
noncomputable def ref02_Same (a1 : Tm) (b2 : Tm) : Option (Bool) := ans X 15 (.p .bool) [.v .tm a1, .v .tm b2]
theorem ref02_Same_eq (a1 : Tm) (b2 : Tm) : ref02_Same a1 b2 = (Option.bind (ref02_Compare a1 b2) fun (r3 : Int) => some (decide (r3 = (0 : Int)))) :=
  (ans_eq G_ok (x := c15) (l := [.p .bool]) (by kernel_rfl) rfl (by kernel_rfl)).trans (by kernel_rfl)
/-- slices.CompareFunc[[]sequent/api.Term,[]sequent/api.Term,sequent/api.Term,sequent/api.Term] -/
noncomputable def CompareFunc_tm (s11 : (List Tm)) (s22 : (List Tm)) (cmp3 : Nat) : Option (Int) := ans X 97 (.p .int) [.v .ltm s11, .v .ltm s22, .fn cmp3 [] []]
noncomputable def CompareFunc_tm.s1 (s11 : (List Tm)) (s22 : (List Tm)) (cmp3 : Nat) (s4 : Int) (next1 : (Int) → Option (Int)) : Option (Int) := (bif (decide (s4 < (List.length s11 : Int))) then (Option.bind (ixL s11 s4) fun e5 => (bif (decide ((List.length s22 : Int) ≤ s4)) then some 1 else (Option.bind (ixL s22 s4) fun e6 => (Option.bind (tyo Int (ans X cmp3 (.p .int) [.v .tm e5, .v .tm e6])) fun (r7 : Int) => (bif (!decide (r7 = (0 : Int))) then some r7 else (next1 (s4 + 1))))))) else (bif (decide ((List.length s11 : Int) < (List.length s22 : Int))) then some (-1) else some 0))
theorem CompareFunc_tm_eq (s11 : (List Tm)) (s22 : (List Tm)) (cmp3 : Nat) : CompareFunc_tm s11 s22 cmp3 = (loopN (CompareFunc_tm.s1 s11 s22 cmp3) 0) :=
  (ans_eq G_ok (x := c97) (l := [.p .int]) (by kernel_rfl) rfl (by kernel_rfl)).trans (by kernel_rfl)
/-- sequent/terms.Compare -/
noncomputable def terms_Compare (a1 : Tm) (b2 : Tm) : Option (Int) := ans X 61 (.p .int) [.v .tm a1, .v .tm b2]
noncomputable def terms_Compare.j1 (r4 : Int) (a1 : Tm) (b2 : Tm) (s5 : Bool) : Option (Int) := (bif s5 then some r4 else (Option.bind (types_Compare a1.y b2.y) fun (r6 : Int) => (Option.bind (cmp_int a1.i b2.i) fun (r7 : Int) => (Option.bind (cmp_int (List.length a1.s : Int) (List.length b2.s : Int)) fun (r8 : Int) => (Option.bind (cmp_Or [r6, r7, r8]) fun (r9 : Int) => (bif (!decide (r9 = (0 : Int))) then some r9 else (Option.bind (CompareFunc_tm a1.s b2.s 61) fun (r10 : Int) => some r10)))))))
theorem terms_Compare_eq (a1 : Tm) (b2 : Tm) : terms_Compare a1 b2 = (Option.bind (cmp_u8 a1.k b2.k) fun (r3 : Int) => (bif (!decide (r3 = (0 : Int))) then some r3 else (Option.bind (strings_Compare a1.n b2.n) fun (r4 : Int) => (jn (terms_Compare.j1 r4 a1 b2) (fun kk1 => (bif (!decide (r4 = (0 : Int))) then (kk1 (!decide (a1.k = (5 : Int)))) else (kk1 false))))))) :=
  (ans_eq G_ok (x := c61) (l := [.p .int]) (by kernel_rfl) rfl (by kernel_rfl)).trans (by kernel_rfl)
/-- sequent/terms.Same -/
noncomputable def terms_Same (a1 : Tm) (b2 : Tm) : Option (Bool) := ans X 62 (.p .bool) [.v .tm a1, .v .tm b2]
theorem terms_Same_eq (a1 : Tm) (b2 : Tm) : terms_Same a1 b2 = (Option.bind (terms_Compare a1 b2) fun (r3 : Int) => some (decide (r3 = (0 : Int)))) :=
  (ans_eq G_ok (x := c62) (l := [.p .bool]) (by kernel_rfl) rfl (by kernel_rfl)).trans (by kernel_rfl)
/-- sequent/terms.Twin -/
noncomputable def terms_Twin (t1 : Tm) : Option (Tm) := ans X 52 (.p .tm) [.v .tm t1]
noncomputable def terms_Twin.s2 (t1 : Tm) (s3 : Int × ByteArray × Ty × Int × (List Tm)) (s4 : Int × (List Tm)) (next2 : (Int × (List Tm)) → Option (Tm)) : Option (Tm) := (bif (decide (s4.1 < (List.length t1.s : Int))) then (Option.bind (ixL t1.s s4.1) fun e5 => (Option.bind (terms_Twin e5) fun (r6 : Tm) => (if 0 ≤ s4.1 ∧ s4.1 < (List.length s4.2 : Int) then (if (Int.toNat s4.1) < List.length s4.2 then (next2 ((s4.1 + 1), (List.set s4.2 (Int.toNat s4.1) r6))) else none) else none))) else some (Tm.mk s3.1 s3.2.1 s3.2.2.1 s3.2.2.2.1 s4.2))
noncomputable def terms_Twin.j1 (t1 : Tm) (s3 : Int × ByteArray × Ty × Int × (List Tm)) : Option (Tm) := (loopN (terms_Twin.s2 t1 s3) (0, s3.2.2.2.2))
theorem terms_Twin_eq (t1 : Tm) : terms_Twin t1 = (Option.bind (types_Twin t1.y) fun (r2 : Ty) => (jn (terms_Twin.j1 t1) (fun kk1 => (bif (decide ((0 : Int) < (List.length t1.s : Int))) then (if 0 ≤ (List.length t1.s : Int) ∧ Int.toNat (List.length t1.s : Int) ≤ LIM then (kk1 (t1.k, t1.n, r2, t1.i, (List.replicate (Int.toNat (List.length t1.s : Int)) (Tm.mk 0 (⟨#[]⟩ : ByteArray) (Ty.mk false (⟨#[]⟩ : ByteArray) []) 0 [])))) else none) else (kk1 (t1.k, t1.n, r2, t1.i, [])))))) :=
  (ans_eq G_ok (x := c52) (l := [.p .tm]) (by kernel_rfl) rfl (by kernel_rfl)).trans (by kernel_rfl)
/-- sequent/sequentref01.Twin -/
noncomputable def ref01_Twin (t1 : Ty) : Option (Ty) := ans X 88 (.p .ty) [.v .ty t1]
noncomputable def ref01_Twin.s1 (t1 : Ty) (s2 : Int × Bool × ByteArray × (List Ty)) (next1 : (Int × Bool × ByteArray × (List Ty)) → Option (Ty)) : Option (Ty) := (bif (decide (s2.1 < (List.length t1.a : Int))) then (Option.bind (ixL t1.a s2.1) fun e3 => (Option.bind (ref01_Twin e3) fun (r4 : Ty) => (if List.length s2.2.2.2 + List.length [r4] ≤ LIM then (next1 ((s2.1 + 1), s2.2.1, s2.2.2.1, (s2.2.2.2 ++ [r4]))) else none))) else some (Ty.mk s2.2.1 s2.2.2.1 s2.2.2.2))
theorem ref01_Twin_eq (t1 : Ty) : ref01_Twin t1 = (loopN (ref01_Twin.s1 t1) (0, t1.v, t1.n, [])) :=
  (ans_eq G_ok (x := c88) (l := [.p .ty]) (by kernel_rfl) rfl (by kernel_rfl)).trans (by kernel_rfl)
/-- sequent/sequentref02.Twin -/
noncomputable def ref02_Twin (t1 : Tm) : Option (Tm) := ans X 58 (.p .tm) [.v .tm t1]
noncomputable def ref02_Twin.s1 (t1 : Tm) (s3 : Int × Int × ByteArray × Ty × Int × (List Tm)) (next1 : (Int × Int × ByteArray × Ty × Int × (List Tm)) → Option (Tm)) : Option (Tm) := (bif (decide (s3.1 < (List.length t1.s : Int))) then (Option.bind (ixL t1.s s3.1) fun e4 => (Option.bind (ref02_Twin e4) fun (r5 : Tm) => (if List.length s3.2.2.2.2.2 + List.length [r5] ≤ LIM then (next1 ((s3.1 + 1), s3.2.1, s3.2.2.1, s3.2.2.2.1, s3.2.2.2.2.1, (s3.2.2.2.2.2 ++ [r5]))) else none))) else some (Tm.mk s3.2.1 s3.2.2.1 s3.2.2.2.1 s3.2.2.2.2.1 s3.2.2.2.2.2))
theorem ref02_Twin_eq (t1 : Tm) : ref02_Twin t1 = (Option.bind (ref01_Twin t1.y) fun (r2 : Ty) => (loopN (ref02_Twin.s1 t1) (0, t1.k, t1.n, r2, t1.i, []))) :=
  (ans_eq G_ok (x := c58) (l := [.p .tm]) (by kernel_rfl) rfl (by kernel_rfl)).trans (by kernel_rfl)
/-- sequent/sequentref01.count -/
noncomputable def ref01_count (t1 : Ty) (left2 : Int) (depth3 : Int) : Option (Int) := ans X 112 (.p .int) [.v .ty t1, .v .int left2, .v .int depth3]
noncomputable def ref01_count.j2 (t1 : Ty) (s4 : Int × Int) (depth3 : Int) (next1 : (Int × Int) → Option (Int)) (s5 : Bool) : Option (Int) := (bif s5 then (Option.bind (ixL t1.a s4.2) fun e6 => (Option.bind (ref01_count e6 s4.1 (IntKind.i64.wrap (depth3 - 1))) fun (r7 : Int) => (next1 (r7, (IntKind.i64.wrap (s4.2 + 1)))))) else some s4.1)
noncomputable def ref01_count.s1 (t1 : Ty) (depth3 : Int) (s4 : Int × Int) (next1 : (Int × Int) → Option (Int)) : Option (Int) := (jn (ref01_count.j2 t1 s4 depth3 next1) (fun kk2 => (bif (decide (s4.2 < (List.length t1.a : Int))) then (kk2 (decide ((0 : Int) < s4.1))) else (kk2 false))))
theorem ref01_count_eq (t1 : Ty) (left2 : Int) (depth3 : Int) : ref01_count t1 left2 depth3 = (bif (decide (depth3 = (0 : Int))) then some 0 else (if (100 : Int) = 0 then none else (loopN (ref01_count.s1 t1 depth3) ((IntKind.i64.wrap ((IntKind.i64.wrap (left2 - 1)) - (IntKind.i64.wrap (Int.tdiv (ByteArray.size t1.n : Int) 100)))), 0)))) :=
  (ans_eq G_ok (x := c112) (l := [.p .int]) (by kernel_rfl) rfl (by kernel_rfl)).trans (by kernel_rfl)
/-- sequent/sequentref01.Great -/
noncomputable def ref01_Great (t1 : Ty) : Option (Bool) := ans X 90 (.p .bool) [.v .ty t1]
theorem ref01_Great_eq (t1 : Ty) : ref01_Great t1 = (Option.bind (ref01_count t1 1500 500) fun (r2 : Int) => some (decide (r2 ≤ (0 : Int)))) :=
  (ans_eq G_ok (x := c90) (l := [.p .bool]) (by kernel_rfl) rfl (by kernel_rfl)).trans (by kernel_rfl)
/-- sequent/sequentref02.count -/
noncomputable def ref02_count (t1 : Tm) (left2 : Int) (depth3 : Int) : Option (Int) := ans X 56 (.p .int) [.v .tm t1, .v .int left2, .v .int depth3]
noncomputable def ref02_count.j3 (t1 : Tm) (s5 : Int × Int) (depth3 : Int) (next2 : (Int × Int) → Option (Int)) (s6 : Bool) : Option (Int) := (bif s6 then (Option.bind (ixL t1.s s5.2) fun e7 => (Option.bind (ref02_count e7 s5.1 (IntKind.i64.wrap (depth3 - 1))) fun (r8 : Int) => (next2 (r8, (IntKind.i64.wrap (s5.2 + 1)))))) else some s5.1)
noncomputable def ref02_count.s2 (t1 : Tm) (depth3 : Int) (s5 : Int × Int) (next2 : (Int × Int) → Option (Int)) : Option (Int) := (jn (ref02_count.j3 t1 s5 depth3 next2) (fun kk3 => (bif (decide (s5.2 < (List.length t1.s : Int))) then (kk3 (decide ((0 : Int) < s5.1))) else (kk3 false))))
noncomputable def ref02_count.j1 (t1 : Tm) (depth3 : Int) (left2 : Int) (s4 : Bool) : Option (Int) := (bif s4 then some 0 else (if (100 : Int) = 0 then none else (loopN (ref02_count.s2 t1 depth3) ((IntKind.i64.wrap ((IntKind.i64.wrap (left2 - 1)) - (IntKind.i64.wrap (Int.tdiv (ByteArray.size t1.n : Int) 100)))), 0))))
theorem ref02_count_eq (t1 : Tm) (left2 : Int) (depth3 : Int) : ref02_count t1 left2 depth3 = (jn (ref02_count.j1 t1 depth3 left2) (fun kk1 => (bif (decide (depth3 = (0 : Int))) then (kk1 true) else (Option.bind (ref01_Great t1.y) fun (r9 : Bool) => (kk1 r9))))) :=
  (ans_eq G_ok (x := c56) (l := [.p .int]) (by kernel_rfl) rfl (by kernel_rfl)).trans (by kernel_rfl)
/-- sequent/sequentref02.Size -/
noncomputable def ref02_Size (t1 : Tm) : Option (Int) := ans X 91 (.p .int) [.v .tm t1]
noncomputable def ref02_Size.s1 (t1 : Tm) (s2 : Int × Int) (next1 : (Int × Int) → Option (Int)) : Option (Int) := (bif (decide (s2.2 < (List.length t1.s : Int))) then (Option.bind (ixL t1.s s2.2) fun e3 => (Option.bind (ref02_Size e3) fun (r4 : Int) => (next1 ((IntKind.i64.wrap (s2.1 + r4)), (s2.2 + 1))))) else some s2.1)
theorem ref02_Size_eq (t1 : Tm) : ref02_Size t1 = (loopN (ref02_Size.s1 t1) (1, 0)) :=
  (ans_eq G_ok (x := c91) (l := [.p .int]) (by kernel_rfl) rfl (by kernel_rfl)).trans (by kernel_rfl)
/-- sequent/sequentref02.Depth -/
noncomputable def ref02_Depth (t1 : Tm) : Option (Int) := ans X 92 (.p .int) [.v .tm t1]
noncomputable def ref02_Depth.s1 (t1 : Tm) (s2 : Int × Int) (next1 : (Int × Int) → Option (Int)) : Option (Int) := (bif (decide (s2.2 < (List.length t1.s : Int))) then (Option.bind (ixL t1.s s2.2) fun e3 => (Option.bind (ref02_Depth e3) fun (r4 : Int) => (next1 ((max s2.1 r4), (s2.2 + 1))))) else some (IntKind.i64.wrap (1 + s2.1)))
theorem ref02_Depth_eq (t1 : Tm) : ref02_Depth t1 = (loopN (ref02_Depth.s1 t1) (0, 0)) :=
  (ans_eq G_ok (x := c92) (l := [.p .int]) (by kernel_rfl) rfl (by kernel_rfl)).trans (by kernel_rfl)
/-- sequent/sequentref02.Small -/
noncomputable def ref02_Small (t1 : Tm) : Option (Bool) := ans X 57 (.p .bool) [.v .tm t1]
theorem ref02_Small_eq (t1 : Tm) : ref02_Small t1 = (Option.bind (ref02_Size t1) fun (r2 : Int) => (bif (decide (r2 ≤ (32000 : Int))) then (Option.bind (ref02_Depth t1) fun (r3 : Int) => some (decide (r3 ≤ (300 : Int)))) else some false)) :=
  (ans_eq G_ok (x := c57) (l := [.p .bool]) (by kernel_rfl) rfl (by kernel_rfl)).trans (by kernel_rfl)
/-- sequent/sequentref02.Great -/
noncomputable def ref02_Great (t1 : Tm) : Option (Bool) := ans X 22 (.p .bool) [.v .tm t1]
theorem ref02_Great_eq (t1 : Tm) : ref02_Great t1 = (Option.bind (ref02_count t1 2000 400) fun (r2 : Int) => (bif (decide ((0 : Int) < r2)) then some false else (Option.bind (ref02_count t1 40000 400) fun (r3 : Int) => (bif (decide (r3 ≤ (0 : Int))) then some true else (Option.bind (ref02_Small t1) fun (r4 : Bool) => some r4))))) :=
  (ans_eq G_ok (x := c22) (l := [.p .bool]) (by kernel_rfl) rfl (by kernel_rfl)).trans (by kernel_rfl)
/-- sequent/sequentref28.Great -/
noncomputable def ref28_Great (g1 : Ssequent) : Option (Bool) := ans X 21 (.p .bool) [.v .sequent g1]
noncomputable def ref28_Great.s2 (g1 : Ssequent) (s3 : Int) (next2 : (Int) → Option (Bool)) : Option (Bool) := (bif (decide (s3 < (List.length g1.hyps : Int))) then (Option.bind (ixL g1.hyps s3) fun e4 => (Option.bind (ref02_Great e4) fun (r5 : Bool) => (bif r5 then some true else (next2 (s3 + 1))))) else some false)
noncomputable def ref28_Great.j1 (g1 : Ssequent) (s2 : Bool) : Option (Bool) := (bif s2 then some true else (loopN (ref28_Great.s2 g1) 0))
theorem ref28_Great_eq (g1 : Ssequent) : ref28_Great g1 = (jn (ref28_Great.j1 g1) (fun kk1 => (bif (decide ((80 : Int) < (List.length g1.hyps : Int))) then (kk1 true) else (bif (decide ((20 : Int) < (List.length g1.hyps : Int))) then (bif (decide ((List.length g1.hyps : Int) ≤ (64 : Int))) then (kk1 true) else (Option.bind (ref02_Great g1.concl) fun (r6 : Bool) => (kk1 r6))) else (Option.bind (ref02_Great g1.concl) fun (r7 : Bool) => (kk1 r7)))))) :=
  (ans_eq G_ok (x := c21) (l := [.p .bool]) (by kernel_rfl) rfl (by kernel_rfl)).trans (by kernel_rfl)
/-- sequent/sequentref08.Great -/
noncomputable def ref08_Great (s1 : Ssequent) : Option (Bool) := ans X 35 (.p .bool) [.v .sequent s1]
noncomputable def ref08_Great.j3 (next1 : (Bool × Int) → Option (Bool)) (s3 : Bool × Int) (s5 : Bool) : Option (Bool) := (next1 (s5, (IntKind.i64.wrap (s3.2 + 1))))
noncomputable def ref08_Great.j2 (next1 : (Bool × Int) → Option (Bool)) (s3 : Bool × Int) (s1 : Ssequent) (s4 : Bool) : Option (Bool) := (bif s4 then (jn (ref08_Great.j3 next1 s3) (fun kk3 => (bif s3.1 then (kk3 true) else (Option.bind (ixL s1.hyps s3.2) fun e6 => (Option.bind (ref02_Great e6) fun (r7 : Bool) => (kk3 r7)))))) else (bif s3.1 then some true else some (decide ((80 : Int) < (List.length s1.hyps : Int)))))
noncomputable def ref08_Great.s1 (s1 : Ssequent) (s3 : Bool × Int) (next1 : (Bool × Int) → Option (Bool)) : Option (Bool) := (jn (ref08_Great.j2 next1 s3 s1) (fun kk2 => (bif (decide (s3.2 < (List.length s1.hyps : Int))) then (kk2 (decide (s3.2 < (80 : Int)))) else (kk2 false))))
theorem ref08_Great_eq (s1 : Ssequent) : ref08_Great s1 = (Option.bind (ref02_Great s1.concl) fun (r2 : Bool) => (loopN (ref08_Great.s1 s1) (r2, 0))) :=
  (ans_eq G_ok (x := c35) (l := [.p .bool]) (by kernel_rfl) rfl (by kernel_rfl)).trans (by kernel_rfl)
/-- sequent/sequentref28.Twin -/
noncomputable def ref28_Twin (g1 : Ssequent) : Option (Ssequent) := ans X 23 (.p .sequent) [.v .sequent g1]
noncomputable def ref28_Twin.s1 (g1 : Ssequent) (s3 : Int × Tm × (List Tm)) (next1 : (Int × Tm × (List Tm)) → Option (Ssequent)) : Option (Ssequent) := (bif (decide (s3.1 < (List.length g1.hyps : Int))) then (Option.bind (ixL g1.hyps s3.1) fun e4 => (Option.bind (ref02_Twin e4) fun (r5 : Tm) => (if List.length s3.2.2 + List.length [r5] ≤ LIM then (next1 ((s3.1 + 1), s3.2.1, (s3.2.2 ++ [r5]))) else none))) else some (Ssequent.mk s3.2.2 s3.2.1))
theorem ref28_Twin_eq (g1 : Ssequent) : ref28_Twin g1 = (Option.bind (ref02_Twin g1.concl) fun (r2 : Tm) => (loopN (ref28_Twin.s1 g1) (0, r2, []))) :=
  (ans_eq G_ok (x := c23) (l := [.p .sequent]) (by kernel_rfl) rfl (by kernel_rfl)).trans (by kernel_rfl)
/-- sequent/goal.Twin -/
noncomputable def goal_Twin (g1 : Ssequent) : Option (Ssequent) := ans X 31 (.p .sequent) [.v .sequent g1]
noncomputable def goal_Twin.s1 (g1 : Ssequent) (s3 : Int × Tm × (List Tm)) (next1 : (Int × Tm × (List Tm)) → Option (Ssequent)) : Option (Ssequent) := (bif (decide (s3.1 < (List.length g1.hyps : Int))) then (Option.bind (ixL g1.hyps s3.1) fun e4 => (Option.bind (terms_Twin e4) fun (r5 : Tm) => (if List.length s3.2.2 + List.length [r5] ≤ LIM then (next1 ((s3.1 + 1), s3.2.1, (s3.2.2 ++ [r5]))) else none))) else some (Ssequent.mk s3.2.2 s3.2.1))
theorem goal_Twin_eq (g1 : Ssequent) : goal_Twin g1 = (Option.bind (terms_Twin g1.concl) fun (r2 : Tm) => (loopN (goal_Twin.s1 g1) (0, r2, []))) :=
  (ans_eq G_ok (x := c31) (l := [.p .sequent]) (by kernel_rfl) rfl (by kernel_rfl)).trans (by kernel_rfl)
/-- sequent/sequentref28.Same -/
noncomputable def ref28_Same (a1 : Ssequent) (b2 : Ssequent) : Option (Bool) := ans X 32 (.p .bool) [.v .sequent a1, .v .sequent b2]
theorem ref28_Same_eq (a1 : Ssequent) (b2 : Ssequent) : ref28_Same a1 b2 = (Option.bind (tyo Bool (ans X 69 (.p .bool) [.v .ltm a1.hyps, .v .ltm b2.hyps])) fun (r3 : Bool) => (bif r3 then (Option.bind (ref02_Same a1.concl b2.concl) fun (r4 : Bool) => some r4) else some false)) :=
  (ans_eq G_ok (x := c32) (l := [.p .bool]) (by kernel_rfl) rfl (by kernel_rfl)).trans (by kernel_rfl)
/-- slices.EqualFunc[[]sequent/api.Term,[]sequent/api.Term,sequent/api.Term,sequent/api.Term] -/
noncomputable def EqualFunc_tm (s11 : (List Tm)) (s22 : (List Tm)) (eq3 : Nat) : Option (Bool) := ans X 70 (.p .bool) [.v .ltm s11, .v .ltm s22, .fn eq3 [] []]
noncomputable def EqualFunc_tm.s1 (s11 : (List Tm)) (s22 : (List Tm)) (eq3 : Nat) (s4 : Int) (next1 : (Int) → Option (Bool)) : Option (Bool) := (bif (decide (s4 < (List.length s11 : Int))) then (Option.bind (ixL s11 s4) fun e5 => (Option.bind (ixL s22 s4) fun e6 => (Option.bind (tyo Bool (ans X eq3 (.p .bool) [.v .tm e5, .v .tm e6])) fun (r7 : Bool) => (bif (!r7) then some false else (next1 (s4 + 1)))))) else some true)
theorem EqualFunc_tm_eq (s11 : (List Tm)) (s22 : (List Tm)) (eq3 : Nat) : EqualFunc_tm s11 s22 eq3 = (bif (!decide ((List.length s11 : Int) = (List.length s22 : Int))) then some false else (loopN (EqualFunc_tm.s1 s11 s22 eq3) 0)) :=
  (ans_eq G_ok (x := c70) (l := [.p .bool]) (by kernel_rfl) rfl (by kernel_rfl)).trans (by kernel_rfl)
/-- sequent/sequentref02.SameAll -/
noncomputable def ref02_SameAll (a1 : (List Tm)) (b2 : (List Tm)) : Option (Bool) := ans X 69 (.p .bool) [.v .ltm a1, .v .ltm b2]
noncomputable def ref02_SameAll.s1 (a1 : (List Tm)) (b2 : (List Tm)) (s3 : Int) (next1 : (Int) → Option (Bool)) : Option (Bool) := (bif (decide (s3 < (List.length a1 : Int))) then (Option.bind (ixL a1 s3) fun e4 => (Option.bind (ixL b2 s3) fun e5 => (Option.bind (ref02_Same e4 e5) fun (r6 : Bool) => (bif (!r6) then some false else (next1 (s3 + 1)))))) else some true)
theorem ref02_SameAll_eq (a1 : (List Tm)) (b2 : (List Tm)) : ref02_SameAll a1 b2 = (bif (!decide ((List.length a1 : Int) = (List.length b2 : Int))) then some false else (loopN (ref02_SameAll.s1 a1 b2) 0)) :=
  (ans_eq G_ok (x := c69) (l := [.p .bool]) (by kernel_rfl) rfl (by kernel_rfl)).trans (by kernel_rfl)
/-- sequent/goal.Same -/
noncomputable def goal_Same (a1 : Ssequent) (b2 : Ssequent) : Option (Bool) := ans X 34 (.p .bool) [.v .sequent a1, .v .sequent b2]
theorem goal_Same_eq (a1 : Ssequent) (b2 : Ssequent) : goal_Same a1 b2 = (Option.bind (EqualFunc_tm a1.hyps b2.hyps 62) fun (r3 : Bool) => (bif r3 then (Option.bind (terms_Same a1.concl b2.concl) fun (r4 : Bool) => some r4) else some false)) :=
  (ans_eq G_ok (x := c34) (l := [.p .bool]) (by kernel_rfl) rfl (by kernel_rfl)).trans (by kernel_rfl)
/-- sequent/goal.Find$1 -/
noncomputable def goal_Find1 (h1 : Tm) (x2 : Tm) : Option (Bool) := ans X 65 (.p .bool) [.v .tm h1, .ip (.v .tm x2) 0 []]
theorem goal_Find1_eq (h1 : Tm) (x2 : Tm) : goal_Find1 h1 x2 = (Option.bind (terms_Same h1 x2) fun (r3 : Bool) => some r3) :=
  (ans_eq G_ok (x := c65) (l := [.p .bool]) (by kernel_rfl) rfl (by kernel_rfl)).trans (by kernel_rfl)
/-- slices.IndexFunc[[]sequent/api.Term,sequent/api.Term] -/
noncomputable def IndexFunc_tm (s1 : (List Tm)) (f2 : Nat) (c3 : Tm) : Option (Int) := ans X 59 (.p .int) [.v .ltm s1, .fn f2 [] [.ip (.v .tm c3) 0 []]]
noncomputable def IndexFunc_tm.s1 (s1 : (List Tm)) (f2 : Nat) (c3 : Tm) (s4 : Int) (next1 : (Int) → Option (Int)) : Option (Int) := (bif (decide (s4 < (List.length s1 : Int))) then (Option.bind (ixL s1 s4) fun e5 => (Option.bind (tyo Bool (ans X f2 (.p .bool) [.v .tm e5, .ip (.v .tm c3) 0 []])) fun (r6 : Bool) => (bif r6 then some s4 else (next1 (s4 + 1))))) else some (-1))
theorem IndexFunc_tm_eq (s1 : (List Tm)) (f2 : Nat) (c3 : Tm) : IndexFunc_tm s1 f2 c3 = (loopN (IndexFunc_tm.s1 s1 f2 c3) 0) :=
  (ans_eq G_ok (x := c59) (l := [.p .int]) (by kernel_rfl) rfl (by kernel_rfl)).trans (by kernel_rfl)
/-- sequent/goal.Find -/
noncomputable def goal_Find (g1 : Ssequent) (p2 : Tm) : Option (Int × Bool) := ans X 27 (.tup [.p .int, .p .bool]) [.v .sequent g1, .v .tm p2]
theorem goal_Find_eq (g1 : Ssequent) (p2 : Tm) : goal_Find g1 p2 = (Option.bind (IndexFunc_tm g1.hyps 65 p2) fun (r3 : Int) => some ((max r3 0), (decide ((0 : Int) ≤ r3)))) :=
  (ans_eq G_ok (x := c27) (l := [.p .int, .p .bool]) (by kernel_rfl) rfl (by kernel_rfl)).trans (by kernel_rfl)
/-- sequent/goal.With$1 -/
noncomputable def goal_With1 (h1 : Tm) (x2 : Tm) : Option (Bool) := ans X 60 (.p .bool) [.v .tm h1, .ip (.v .tm x2) 0 []]
theorem goal_With1_eq (h1 : Tm) (x2 : Tm) : goal_With1 h1 x2 = (Option.bind (terms_Compare h1 x2) fun (r3 : Int) => some (decide ((0 : Int) ≤ r3))) :=
  (ans_eq G_ok (x := c60) (l := [.p .bool]) (by kernel_rfl) rfl (by kernel_rfl)).trans (by kernel_rfl)
/-- sequent/sequentref28.Find -/
noncomputable def ref28_Find (g1 : Ssequent) (p2 : Tm) : Option (Int × Bool) := ans X 28 (.tup [.p .int, .p .bool]) [.v .sequent g1, .v .tm p2]
noncomputable def ref28_Find.s1 (g1 : Ssequent) (p2 : Tm) (s3 : Int) (next1 : (Int) → Option (Int × Bool)) : Option (Int × Bool) := (bif (decide (s3 < (List.length g1.hyps : Int))) then (Option.bind (ixL g1.hyps s3) fun e4 => (Option.bind (ref02_Same e4 p2) fun (r5 : Bool) => (bif r5 then some (s3, true) else (next1 (s3 + 1))))) else some (0, false))
theorem ref28_Find_eq (g1 : Ssequent) (p2 : Tm) : ref28_Find g1 p2 = (loopN (ref28_Find.s1 g1 p2) 0) :=
  (ans_eq G_ok (x := c28) (l := [.p .int, .p .bool]) (by kernel_rfl) rfl (by kernel_rfl)).trans (by kernel_rfl)
/-- sequent/sequentref28.With -/
noncomputable def ref28_With (g1 : Ssequent) (p2 : Tm) : Option (Ssequent) := ans X 33 (.p .sequent) [.v .sequent g1, .v .tm p2]
noncomputable def ref28_With.j3 (g1 : Ssequent) (s3 : Int) (p2 : Tm) (s5 : Bool) : Option (Ssequent) := (bif s5 then some g1 else (Option.bind (slcL g1.hyps 0 s3 (List.length g1.hyps : Int)) fun l6 => (if List.length l6 ≤ LIM then (if List.length l6 + List.length [p2] ≤ LIM then (Option.bind (slcL g1.hyps s3 (List.length g1.hyps : Int) (List.length g1.hyps : Int)) fun l7 => (if List.length (l6 ++ [p2]) + List.length l7 ≤ LIM then some (Ssequent.mk ((l6 ++ [p2]) ++ l7) g1.concl) else none)) else none) else none)))
noncomputable def ref28_With.j2 (next1 : (Int) → Option (Ssequent)) (s3 : Int) (g1 : Ssequent) (p2 : Tm) (s4 : Bool) : Option (Ssequent) := (bif s4 then (next1 (IntKind.i64.wrap (s3 + 1))) else (jn (ref28_With.j3 g1 s3 p2) (fun kk3 => (bif (decide (s3 < (List.length g1.hyps : Int))) then (Option.bind (ixL g1.hyps s3) fun e8 => (Option.bind (ref02_Same e8 p2) fun (r9 : Bool) => (kk3 r9))) else (kk3 false)))))
noncomputable def ref28_With.s1 (g1 : Ssequent) (p2 : Tm) (s3 : Int) (next1 : (Int) → Option (Ssequent)) : Option (Ssequent) := (jn (ref28_With.j2 next1 s3 g1 p2) (fun kk2 => (bif (decide (s3 < (List.length g1.hyps : Int))) then (Option.bind (ixL g1.hyps s3) fun e10 => (Option.bind (ref02_Compare e10 p2) fun (r11 : Int) => (kk2 (decide (r11 < (0 : Int)))))) else (kk2 false))))
theorem ref28_With_eq (g1 : Ssequent) (p2 : Tm) : ref28_With g1 p2 = (loopN (ref28_With.s1 g1 p2) 0) :=
  (ans_eq G_ok (x := c33) (l := [.p .sequent]) (by kernel_rfl) rfl (by kernel_rfl)).trans (by kernel_rfl)
/-- sequent/sequentref28.Without -/
noncomputable def ref28_Without (g1 : Ssequent) (i2 : Int) : Option (Ssequent × Bool) := ans X 26 (.tup [.p .sequent, .p .bool]) [.v .sequent g1, .v .int i2]
noncomputable def ref28_Without.j1 (g1 : Ssequent) (i2 : Int) (s3 : Bool) : Option (Ssequent × Bool) := (bif s3 then some ((Ssequent.mk [] (Tm.mk 0 (⟨#[]⟩ : ByteArray) (Ty.mk false (⟨#[]⟩ : ByteArray) []) 0 [])), false) else (Option.bind (slcL g1.hyps 0 i2 (List.length g1.hyps : Int)) fun l4 => (if List.length l4 ≤ LIM then (Option.bind (slcL g1.hyps (IntKind.i64.wrap (i2 + 1)) (List.length g1.hyps : Int) (List.length g1.hyps : Int)) fun l5 => (if List.length l4 + List.length l5 ≤ LIM then some ((Ssequent.mk (l4 ++ l5) g1.concl), true) else none)) else none)))
theorem ref28_Without_eq (g1 : Ssequent) (i2 : Int) : ref28_Without g1 i2 = (jn (ref28_Without.j1 g1 i2) (fun kk1 => (bif (decide (i2 < (0 : Int))) then (kk1 true) else (kk1 (decide ((List.length g1.hyps : Int) ≤ i2)))))) :=
  (ans_eq G_ok (x := c26) (l := [.p .sequent, .p .bool]) (by kernel_rfl) rfl (by kernel_rfl)).trans (by kernel_rfl)
/-- sequent/sequentref02.Has -/
noncomputable def ref02_Has (l1 : (List Tm)) (t2 : Tm) : Option (Bool) := ans X 134 (.p .bool) [.v .ltm l1, .v .tm t2]
noncomputable def ref02_Has.s1 (l1 : (List Tm)) (t2 : Tm) (s3 : Int) (next1 : (Int) → Option (Bool)) : Option (Bool) := (bif (decide (s3 < (List.length l1 : Int))) then (Option.bind (ixL l1 s3) fun e4 => (Option.bind (ref02_Same e4 t2) fun (r5 : Bool) => (bif r5 then some true else (next1 (s3 + 1))))) else some false)
theorem ref02_Has_eq (l1 : (List Tm)) (t2 : Tm) : ref02_Has l1 t2 = (loopN (ref02_Has.s1 l1 t2) 0) :=
  (ans_eq G_ok (x := c134) (l := [.p .bool]) (by kernel_rfl) rfl (by kernel_rfl)).trans (by kernel_rfl)
/-- sequent/types.nodes -/
noncomputable def types_nodes (t1 : Ty) : Option (Ty) := ans X 138 (.fn 141 [] [.ip .ty]) [.v .ty t1]
theorem types_nodes_eq (t1 : Ty) : types_nodes t1 = some t1 :=
  (ans_eq G_ok (x := c138) (l := [.fn 141 [] [.ip .ty]]) (by kernel_rfl) rfl (by kernel_rfl)).trans (by kernel_rfl)
/-- sequent/sequentref02.Vars -/
noncomputable def ref02_VarsR (h1 : (List Tm)) (t2 : Tm) : Option ((List Tm)) := ansG X 1 121 ho121v1 rs121v1 [.row 27 .tm h1] [.row 0, .v .tm t2]
noncomputable def ref02_VarsR.s2 (t2 : Tm) (s4 : Int × (List Tm)) (next2 : (Int × (List Tm)) → Option ((List Tm))) : Option ((List Tm)) := (bif (decide (s4.1 < (List.length t2.s : Int))) then (Option.bind (ixL t2.s s4.1) fun e5 => (Option.bind (ref02_VarsR s4.2 e5) fun (r6 : (List Tm)) => (next2 ((s4.1 + 1), r6)))) else some s4.2)
noncomputable def ref02_VarsR.j1 (t2 : Tm) (s3 : (List Tm)) : Option ((List Tm)) := (loopN (ref02_VarsR.s2 t2) (0, s3))
noncomputable def ref02_VarsR.j3 (t2 : Tm) (kk1 : ((List Tm)) → Option ((List Tm))) (s7 : Bool × (List Tm)) : Option ((List Tm)) := (bif s7.1 then (Option.bind (ref02_Twin t2) fun (r8 : Tm) => (if List.length s7.2 + List.length [r8] ≤ LIM then (kk1 (s7.2 ++ [r8])) else none)) else (kk1 s7.2))
theorem ref02_VarsR_eq (h1 : (List Tm)) (t2 : Tm) : ref02_VarsR h1 t2 = (jn (ref02_VarsR.j1 t2) (fun kk1 => (jn (ref02_VarsR.j3 t2 kk1) (fun kk3 => (bif (decide (t2.k = (1 : Int))) then (Option.bind (ref02_Has h1 t2) fun (r9 : Bool) => (kk3 ((!r9), h1))) else (kk3 (false, h1))))))) :=
  (ansG_eq G_ok (x := c121v1) (n := 1) (ho := ho121v1) (l := [.row 0]) (by kernel_rfl) rfl (by kernel_rfl) ⟨fun _ => ⟨_, _, rfl⟩, trivial⟩ (by kernel_rfl)).trans (by kernel_rfl)
/-- sequent/sequentref02.Vars -/
noncomputable def ref02_Vars (t1 : Tm) : Option ((List Tm)) := ansG X 2 121 ho121v2 rs121v2 [] [.ns .tm, .v .tm t1]
noncomputable def ref02_Vars.s2 (t1 : Tm) (s3 : Int × (List Tm)) (next2 : (Int × (List Tm)) → Option ((List Tm))) : Option ((List Tm)) := (bif (decide (s3.1 < (List.length t1.s : Int))) then (Option.bind (ixL t1.s s3.1) fun e4 => (Option.bind (ref02_VarsR s3.2 e4) fun (r5 : (List Tm)) => (next2 ((s3.1 + 1), r5)))) else some s3.2)
noncomputable def ref02_Vars.j1 (t1 : Tm) (s2 : (List Tm)) : Option ((List Tm)) := (loopN (ref02_Vars.s2 t1) (0, s2))
noncomputable def ref02_Vars.j3 (t1 : Tm) (kk1 : ((List Tm)) → Option ((List Tm))) (s6 : Bool) : Option ((List Tm)) := (bif s6 then (Option.bind (ref02_Twin t1) fun (r7 : Tm) => (if List.length [r7] ≤ LIM then (kk1 [r7]) else none)) else (kk1 []))
theorem ref02_Vars_eq (t1 : Tm) : ref02_Vars t1 = (jn (ref02_Vars.j1 t1) (fun kk1 => (jn (ref02_Vars.j3 t1 kk1) (fun kk3 => (bif (decide (t1.k = (1 : Int))) then (Option.bind (ref02_Has [] t1) fun (r8 : Bool) => (kk3 (!r8))) else (kk3 false)))))) :=
  (ansG_eq G_ok (x := c121v2) (n := 0) (ho := ho121v2) (l := [.row 0]) (by kernel_rfl) rfl (by kernel_rfl) ⟨fun _ => ⟨_, _, rfl⟩, trivial⟩ (by kernel_rfl)).trans (by kernel_rfl)
/-- sequent/sequentref01.Name -/
noncomputable def ref01_Name (s1 : ByteArray) : Option (Bool) := ans X 126 (.p .bool) [.v .str s1]
noncomputable def ref01_Name.j3 (next2 : (Int) → Option (Bool)) (s3 : Int) (s5 : Bool) : Option (Bool) := (bif s5 then some false else (next2 (s3 + 1)))
noncomputable def ref01_Name.s2 (s1 : ByteArray) (s3 : Int) (next2 : (Int) → Option (Bool)) : Option (Bool) := (bif (decide (s3 < (ByteArray.size s1 : Int))) then (Option.bind (ixS s1 s3) fun c4 => (jn (ref01_Name.j3 next2 s3) (fun kk3 => (bif (decide (c4 < (33 : Int))) then (kk3 true) else (bif (decide ((126 : Int) < c4)) then (kk3 true) else (bif (decide (c4 = (40 : Int))) then (kk3 true) else (bif (decide (c4 = (41 : Int))) then (kk3 true) else (bif (decide (c4 = (44 : Int))) then (kk3 true) else (bif (decide (c4 = (58 : Int))) then (kk3 true) else (bif (decide (c4 = (92 : Int))) then (kk3 true) else (bif (decide (c4 = (46 : Int))) then (kk3 true) else (kk3 (decide (c4 = (34 : Int))))))))))))))) else some true)
noncomputable def ref01_Name.j1 (s1 : ByteArray) (s2 : Bool) : Option (Bool) := (bif s2 then some false else (loopN (ref01_Name.s2 s1) 0))
theorem ref01_Name_eq (s1 : ByteArray) : ref01_Name s1 = (jn (ref01_Name.j1 s1) (fun kk1 => (bif (decide ((ByteArray.size s1 : Int) < (1 : Int))) then (kk1 true) else (kk1 (decide ((30 : Int) < (ByteArray.size s1 : Int))))))) :=
  (ans_eq G_ok (x := c126) (l := [.p .bool]) (by kernel_rfl) rfl (by kernel_rfl)).trans (by kernel_rfl)
/-- sequent/sequentref02.Name -/
noncomputable def ref02_Name (s1 : ByteArray) : Option (Bool) := ans X 109 (.p .bool) [.v .str s1]
theorem ref02_Name_eq (s1 : ByteArray) : ref02_Name s1 = (Option.bind (ref01_Name s1) fun (r2 : Bool) => (bif r2 then (Option.bind (ixS s1 0) fun c3 => some (!decide (c3 = (39 : Int)))) else some false)) :=
  (ans_eq G_ok (x := c109) (l := [.p .bool]) (by kernel_rfl) rfl (by kernel_rfl)).trans (by kernel_rfl)
/-- sequent/sequentref01.Small -/
noncomputable def ref01_Small (t1 : Ty) : Option (Bool) := ans X 127 (.p .bool) [.v .ty t1]
theorem ref01_Small_eq (t1 : Ty) : ref01_Small t1 = (Option.bind (ref01_Size t1) fun (r2 : Int) => (bif (decide (r2 ≤ (500 : Int))) then (Option.bind (ref01_Depth t1) fun (r3 : Int) => some (decide (r3 ≤ (200 : Int)))) else some false)) :=
  (ans_eq G_ok (x := c127) (l := [.p .bool]) (by kernel_rfl) rfl (by kernel_rfl)).trans (by kernel_rfl)
/-- sequent/sequentref01.shape -/
noncomputable def ref01_shape (t1 : Ty) : Option (Bool) := ans X 128 (.p .bool) [.v .ty t1]
noncomputable def ref01_shape.s2 (t1 : Ty) (s3 : Int) (next2 : (Int) → Option (Bool)) : Option (Bool) := (bif (decide (s3 < (List.length t1.a : Int))) then (Option.bind (ixL t1.a s3) fun e4 => (Option.bind (ref01_shape e4) fun (r5 : Bool) => (bif (!r5) then some false else (next2 (s3 + 1))))) else some true)
noncomputable def ref01_shape.j1 (t1 : Ty) (s2 : Bool) : Option (Bool) := (bif s2 then some false else (loopN (ref01_shape.s2 t1) 0))
theorem ref01_shape_eq (t1 : Ty) : ref01_shape t1 = (jn (ref01_shape.j1 t1) (fun kk1 => (Option.bind (ref01_Name t1.n) fun (r6 : Bool) => (bif (!r6) then (kk1 true) else (Option.bind (ixS t1.n 0) fun c7 => (bif (!(t1.v == (decide (c7 = (39 : Int))))) then (kk1 true) else (bif t1.v then (bif (decide ((0 : Int) < (List.length t1.a : Int))) then (kk1 true) else (kk1 (decide ((8 : Int) < (List.length t1.a : Int))))) else (kk1 (decide ((8 : Int) < (List.length t1.a : Int))))))))))) :=
  (ans_eq G_ok (x := c128) (l := [.p .bool]) (by kernel_rfl) rfl (by kernel_rfl)).trans (by kernel_rfl)
/-- sequent/sequentref01.Valid -/
noncomputable def ref01_Valid (t1 : Ty) : Option (Bool) := ans X 110 (.p .bool) [.v .ty t1]
theorem ref01_Valid_eq (t1 : Ty) : ref01_Valid t1 = (Option.bind (ref01_Small t1) fun (r2 : Bool) => (bif r2 then (Option.bind (ref01_shape t1) fun (r3 : Bool) => some r3) else some false)) :=
  (ans_eq G_ok (x := c110) (l := [.p .bool]) (by kernel_rfl) rfl (by kernel_rfl)).trans (by kernel_rfl)
/-- sequent/sequentref02.none -/
noncomputable def ref02_none (t1 : Ty) : Option (Bool) := ans X 111 (.p .bool) [.v .ty t1]
theorem ref02_none_eq (t1 : Ty) : ref02_none t1 = (bif (!t1.v) then (bif (decide (t1.n = (⟨#[]⟩ : ByteArray))) then some (decide ((List.length t1.a : Int) = (0 : Int))) else some false) else some false) :=
  (ans_eq G_ok (x := c111) (l := [.p .bool]) (by kernel_rfl) rfl (by kernel_rfl)).trans (by kernel_rfl)
/-- sequent/sequentref01.Fun -/
noncomputable def ref01_Fun (a1 : Ty) (b2 : Ty) : Option (Ty) := ans X 89 (.p .ty) [.v .ty a1, .v .ty b2]
theorem ref01_Fun_eq (a1 : Ty) (b2 : Ty) : ref01_Fun a1 b2 = (Option.bind (ref01_Twin a1) fun (r3 : Ty) => (Option.bind (ref01_Twin b2) fun (r4 : Ty) => some (Ty.mk false (⟨#[102, 117, 110]⟩ : ByteArray) [r3, r4]))) :=
  (ans_eq G_ok (x := c89) (l := [.p .ty]) (by kernel_rfl) rfl (by kernel_rfl)).trans (by kernel_rfl)
/-- sequent/sequentref02.Formed -/
noncomputable def ref02_Formed (x1 : Tm) (x2 : (List Ty)) : Option (Ty × Bool) := ans X 87 (.tup [.p .ty, .p .bool]) [.v .tm x1, .v .lty x2]
noncomputable def ref02_Formed.j2 (x2 : (List Ty)) (x1 : Tm) (s6 : Bool) : Option (Ty × Bool) := (bif s6 then some ((Ty.mk false (⟨#[]⟩ : ByteArray) []), false) else (Option.bind (ixL x2 x1.i) fun e7 => some (e7, true)))
noncomputable def ref02_Formed.j4 (r11 : Ty × Bool) (s14 : Bool) : Option (Ty × Bool) := (bif s14 then some ((Ty.mk false (⟨#[]⟩ : ByteArray) []), false) else (Option.bind (ixL r11.1.a 1) fun e15 => some (e15, true)))
noncomputable def ref02_Formed.j3 (x1 : Tm) (x2 : (List Ty)) (s9 : Bool) : Option (Ty × Bool) := (bif s9 then some ((Ty.mk false (⟨#[]⟩ : ByteArray) []), false) else (Option.bind (ixL x1.s 0) fun e10 => (Option.bind (ref02_Formed e10 x2) fun (r11 : Ty × Bool) => (Option.bind (ixL x1.s 1) fun e12 => (Option.bind (ref02_Formed e12 x2) fun (r13 : Ty × Bool) => (jn (ref02_Formed.j4 r11) (fun kk4 => (bif (!r11.2) then (kk4 true) else (bif (!r13.2) then (kk4 true) else (bif r11.1.v then (kk4 true) else (bif (!decide (r11.1.n = (⟨#[102, 117, 110]⟩ : ByteArray))) then (kk4 true) else (bif (!decide ((List.length r11.1.a : Int) = (2 : Int))) then (kk4 true) else (Option.bind (ixL r11.1.a 0) fun e16 => (Option.bind (ref01_Same e16 r13.1) fun (r17 : Bool) => (kk4 (!r17))))))))))))))))
noncomputable def ref02_Formed.j5 (x1 : Tm) (x2 : (List Ty)) (s19 : Bool) : Option (Ty × Bool) := (bif s19 then some ((Ty.mk false (⟨#[]⟩ : ByteArray) []), false) else (Option.bind (ixL x1.s 0) fun e20 => (if List.length [x1.y] + List.length x2 ≤ LIM then (Option.bind (ref02_Formed e20 ([x1.y] ++ x2)) fun (r21 : Ty × Bool) => (Option.bind (ref01_Fun x1.y r21.1) fun (r22 : Ty) => (bif r21.2 then (Option.bind (ref01_Valid r22) fun (r23 : Bool) => some (r22, r23)) else some (r22, false)))) else none)))
noncomputable def ref02_Formed.j1 (x1 : Tm) (x2 : (List Ty)) (s3 : Bool) : Option (Ty × Bool) := (bif s3 then (Option.bind (ref02_Name x1.n) fun (r4 : Bool) => (bif r4 then (Option.bind (ref01_Valid x1.y) fun (r5 : Bool) => (bif r5 then (bif (decide (x1.i = (0 : Int))) then some (x1.y, (decide ((List.length x1.s : Int) = (0 : Int)))) else some (x1.y, false)) else some (x1.y, false))) else some (x1.y, false))) else (bif (decide (x1.k = (3 : Int))) then (jn (ref02_Formed.j2 x2 x1) (fun kk2 => (bif (!decide (x1.n = (⟨#[]⟩ : ByteArray))) then (kk2 true) else (Option.bind (ref02_none x1.y) fun (r8 : Bool) => (bif (!r8) then (kk2 true) else (bif (!decide ((List.length x1.s : Int) = (0 : Int))) then (kk2 true) else (bif (decide (x1.i < (0 : Int))) then (kk2 true) else (kk2 (decide ((List.length x2 : Int) ≤ x1.i)))))))))) else (bif (decide (x1.k = (4 : Int))) then (jn (ref02_Formed.j3 x1 x2) (fun kk3 => (bif (!decide (x1.n = (⟨#[]⟩ : ByteArray))) then (kk3 true) else (Option.bind (ref02_none x1.y) fun (r18 : Bool) => (bif (!r18) then (kk3 true) else (bif (!decide (x1.i = (0 : Int))) then (kk3 true) else (kk3 (!decide ((List.length x1.s : Int) = (2 : Int)))))))))) else (bif (decide (x1.k = (5 : Int))) then (jn (ref02_Formed.j5 x1 x2) (fun kk5 => (Option.bind (ref02_Name x1.n) fun (r24 : Bool) => (bif (!r24) then (kk5 true) else (Option.bind (ref01_Valid x1.y) fun (r25 : Bool) => (bif (!r25) then (kk5 true) else (bif (!decide (x1.i = (0 : Int))) then (kk5 true) else (kk5 (!decide ((List.length x1.s : Int) = (1 : Int))))))))))) else some ((Ty.mk false (⟨#[]⟩ : ByteArray) []), false)))))
theorem ref02_Formed_eq (x1 : Tm) (x2 : (List Ty)) : ref02_Formed x1 x2 = (jn (ref02_Formed.j1 x1 x2) (fun kk1 => (bif (decide (x1.k = (1 : Int))) then (kk1 true) else (kk1 (decide (x1.k = (2 : Int))))))) :=
  (ans_eq G_ok (x := c87) (l := [.p .ty, .p .bool]) (by kernel_rfl) rfl (by kernel_rfl)).trans (by kernel_rfl)
/-- sequent/sequentref02.Check -/
noncomputable def ref02_Check (t1 : Tm) : Option (Int) := ans X 73 (.p .int) [.v .tm t1]
theorem ref02_Check_eq (t1 : Tm) : ref02_Check t1 = (Option.bind (ref02_Small t1) fun (r2 : Bool) => (bif (!r2) then some 21 else (Option.bind (ref02_Formed t1 []) fun (r3 : Ty × Bool) => (bif (!r3.2) then some 20 else some 0)))) :=
  (ans_eq G_ok (x := c73) (l := [.p .int]) (by kernel_rfl) rfl (by kernel_rfl)).trans (by kernel_rfl)
/-- sequent/sequentref02.Checks -/
noncomputable def ref02_Checks (l1 : (List Tm)) : Option (Int) := ans X 37 (.p .int) [.v .ltm l1]
noncomputable def ref02_Checks.s1 (l1 : (List Tm)) (s2 : Int) (next1 : (Int) → Option (Int)) : Option (Int) := (bif (decide (s2 < (List.length l1 : Int))) then (Option.bind (ixL l1 s2) fun e3 => (Option.bind (ref02_Check e3) fun (r4 : Int) => (bif (!decide (r4 = (0 : Int))) then some r4 else (next1 (s2 + 1))))) else some 0)
theorem ref02_Checks_eq (l1 : (List Tm)) : ref02_Checks l1 = (loopN (ref02_Checks.s1 l1) 0) :=
  (ans_eq G_ok (x := c37) (l := [.p .int]) (by kernel_rfl) rfl (by kernel_rfl)).trans (by kernel_rfl)
/-- sequent/types.name -/
noncomputable def types_name (s1 : ByteArray) : Option (Bool) := ans X 140 (.p .bool) [.v .str s1]
noncomputable def types_name.j3 (next1 : (Int) → Option (Bool)) (s2 : Int) (s5 : Bool) : Option (Bool) := (bif s5 then some false else (next1 (s2 + 1)))
noncomputable def types_name.j2 (next1 : (Int) → Option (Bool)) (s2 : Int) (c3 : Int) (s4 : Bool) : Option (Bool) := (bif s4 then some false else (jn (types_name.j3 next1 s2) (fun kk3 => (bif (decide (c3 < (33 : Int))) then (kk3 true) else (kk3 (decide ((126 : Int) < c3)))))))
noncomputable def types_name.s1 (s1 : ByteArray) (s2 : Int) (next1 : (Int) → Option (Bool)) : Option (Bool) := (bif (decide (s2 < (ByteArray.size s1 : Int))) then (Option.bind (ixS s1 s2) fun c3 => (jn (types_name.j2 next1 s2 c3) (fun kk2 => (bif (decide (c3 = (40 : Int))) then (kk2 true) else (bif (decide (c3 = (41 : Int))) then (kk2 true) else (bif (decide (c3 = (44 : Int))) then (kk2 true) else (bif (decide (c3 = (58 : Int))) then (kk2 true) else (bif (decide (c3 = (92 : Int))) then (kk2 true) else (bif (decide (c3 = (46 : Int))) then (kk2 true) else (kk2 (decide (c3 = (34 : Int))))))))))))) else (bif (!decide (s1 = (⟨#[]⟩ : ByteArray))) then some (decide ((ByteArray.size s1 : Int) ≤ (30 : Int))) else some false))
theorem types_name_eq (s1 : ByteArray) : types_name s1 = (loopN (types_name.s1 s1) 0) :=
  (ans_eq G_ok (x := c140) (l := [.p .bool]) (by kernel_rfl) rfl (by kernel_rfl)).trans (by kernel_rfl)
/-- sequent/types.measure -/
noncomputable def types_measure (t1 : Ty) : Option (Int × Int × Bool) := ans X 135 (.tup [.p .int, .p .int, .p .bool]) [.v .ty t1]
noncomputable def types_measure.j3 (next2 : (Int × Int × Bool × Int) → Option (Int × Int × Bool)) (s3 : Int × Int × Bool × Int) (s4 : Int × Int × Bool) : Option (Int × Int × Bool) := (next2 (s4.1, s4.2.1, s4.2.2, (s3.2.2.2 + 1)))
noncomputable def types_measure.s2 (t1 : Ty) (s3 : Int × Int × Bool × Int) (next2 : (Int × Int × Bool × Int) → Option (Int × Int × Bool)) : Option (Int × Int × Bool) := (bif (decide (s3.2.2.2 < (List.length t1.a : Int))) then (jn (types_measure.j3 next2 s3) (fun kk3 => (Option.bind (ixL t1.a s3.2.2.2) fun e5 => (Option.bind (types_measure e5) fun (r6 : Int × Int × Bool) => (bif s3.2.2.1 then (kk3 ((IntKind.i64.wrap (s3.1 + r6.1)), (max s3.2.1 r6.2.1), r6.2.2)) else (kk3 ((IntKind.i64.wrap (s3.1 + r6.1)), (max s3.2.1 r6.2.1), false))))))) else some (s3.1, (IntKind.i64.wrap (s3.2.1 + 1)), s3.2.2.1))
noncomputable def types_measure.j1 (t1 : Ty) (s2 : Bool) : Option (Int × Int × Bool) := (loopN (types_measure.s2 t1) (1, 0, s2, 0))
theorem types_measure_eq (t1 : Ty) : types_measure t1 = (jn (types_measure.j1 t1) (fun kk1 => (bif t1.v then (Option.bind (tyo Bool (ans X 139 (.p .bool) [.v .str t1.n])) fun (r7 : Bool) => (bif r7 then (kk1 (decide ((List.length t1.a : Int) = (0 : Int)))) else (kk1 false))) else (Option.bind (types_name t1.n) fun (r8 : Bool) => (bif r8 then (Option.bind (ixS t1.n 0) fun c9 => (bif (!decide (c9 = (39 : Int))) then (kk1 (decide ((List.length t1.a : Int) ≤ (8 : Int)))) else (kk1 false))) else (kk1 false)))))) :=
  (ans_eq G_ok (x := c135) (l := [.p .int, .p .int, .p .bool]) (by kernel_rfl) rfl (by kernel_rfl)).trans (by kernel_rfl)
/-- sequent/types.variable -/
noncomputable def types_variable (s1 : ByteArray) : Option (Bool) := ans X 139 (.p .bool) [.v .str s1]
theorem types_variable_eq (s1 : ByteArray) : types_variable s1 = (Option.bind (types_name s1) fun (r2 : Bool) => (bif r2 then (Option.bind (ixS s1 0) fun c3 => some (decide (c3 = (39 : Int)))) else some false)) :=
  (ans_eq G_ok (x := c139) (l := [.p .bool]) (by kernel_rfl) rfl (by kernel_rfl)).trans (by kernel_rfl)
/-- sequent/types.Check -/
noncomputable def types_Check (t1 : Ty) : Option (Int) := ans X 125 (.p .int) [.v .ty t1]
noncomputable def types_Check.j1 (s3 : Bool) : Option (Int) := (bif s3 then some 10 else some 0)
theorem types_Check_eq (t1 : Ty) : types_Check t1 = (Option.bind (types_measure t1) fun (r2 : Int × Int × Bool) => (jn (types_Check.j1) (fun kk1 => (bif (!r2.2.2) then (kk1 true) else (bif (decide ((500 : Int) < r2.1)) then (kk1 true) else (kk1 (decide ((200 : Int) < r2.2.1)))))))) :=
  (ans_eq G_ok (x := c125) (l := [.p .int]) (by kernel_rfl) rfl (by kernel_rfl)).trans (by kernel_rfl)
/-- sequent/terms.named -/
noncomputable def terms_named (s1 : ByteArray) : Option (Bool) := ans X 124 (.p .bool) [.v .str s1]
theorem terms_named_eq (s1 : ByteArray) : terms_named s1 = (Option.bind (types_Check (Ty.mk false s1 [])) fun (r2 : Int) => some (decide (r2 = (0 : Int)))) :=
  (ans_eq G_ok (x := c124) (l := [.p .bool]) (by kernel_rfl) rfl (by kernel_rfl)).trans (by kernel_rfl)
/-- sequent/terms.plain -/
noncomputable def terms_plain (t1 : Tm) (name2 : Bool) (typ3 : Bool) (index4 : Bool) : Option (Bool) := ans X 123 (.p .bool) [.v .tm t1, .v .bool name2, .v .bool typ3, .v .bool index4]
theorem terms_plain_eq (t1 : Tm) (name2 : Bool) (typ3 : Bool) (index4 : Bool) : terms_plain t1 name2 typ3 index4 = (bif name2 then (bif typ3 then (bif index4 then some true else some (decide (t1.i = (0 : Int)))) else (bif (!t1.y.v) then (bif (decide (t1.y.n = (⟨#[]⟩ : ByteArray))) then (bif (decide ((List.length t1.y.a : Int) = (0 : Int))) then (bif index4 then some true else some (decide (t1.i = (0 : Int)))) else some false) else some false) else some false)) else (bif (decide (t1.n = (⟨#[]⟩ : ByteArray))) then (bif typ3 then (bif index4 then some true else some (decide (t1.i = (0 : Int)))) else (bif (!t1.y.v) then (bif (decide (t1.y.n = (⟨#[]⟩ : ByteArray))) then (bif (decide ((List.length t1.y.a : Int) = (0 : Int))) then (bif index4 then some true else some (decide (t1.i = (0 : Int)))) else some false) else some false) else some false)) else some false)) :=
  (ans_eq G_ok (x := c123) (l := [.p .bool]) (by kernel_rfl) rfl (by kernel_rfl)).trans (by kernel_rfl)
/-- sequent/terms.extent -/
noncomputable def terms_extent (t1 : Tm) : Option (Int × Int) := ans X 122 (.tup [.p .int, .p .int]) [.v .tm t1]
noncomputable def terms_extent.s1 (t1 : Tm) (s2 : Int × Int × Int) (next1 : (Int × Int × Int) → Option (Int × Int)) : Option (Int × Int) := (bif (decide (s2.2.2 < (List.length t1.s : Int))) then (Option.bind (ixL t1.s s2.2.2) fun e3 => (Option.bind (terms_extent e3) fun (r4 : Int × Int) => (next1 ((IntKind.i64.wrap (s2.1 + r4.1)), (max s2.2.1 r4.2), (s2.2.2 + 1))))) else some (s2.1, (IntKind.i64.wrap (s2.2.1 + 1))))
theorem terms_extent_eq (t1 : Tm) : terms_extent t1 = (loopN (terms_extent.s1 t1) (1, 0, 0)) :=
  (ans_eq G_ok (x := c122) (l := [.p .int, .p .int]) (by kernel_rfl) rfl (by kernel_rfl)).trans (by kernel_rfl)
/-- sequent/terms.great -/
noncomputable def terms_great (t1 : Tm) : Option (Bool) := ans X 105 (.p .bool) [.v .tm t1]
theorem terms_great_eq (t1 : Tm) : terms_great t1 = (Option.bind (terms_extent t1) fun (r2 : Int × Int) => (bif (decide ((32000 : Int) < r2.1)) then some true else some (decide ((300 : Int) < r2.2)))) :=
  (ans_eq G_ok (x := c105) (l := [.p .bool]) (by kernel_rfl) rfl (by kernel_rfl)).trans (by kernel_rfl)
/-- sequent/terms.formed -/
noncomputable def terms_formed (x1 : Tm) (x2 : (List Ty)) : Option (Ty × Bool) := ans X 106 (.tup [.p .ty, .p .bool]) [.v .tm x1, .v .lty x2]
noncomputable def terms_formed.j2 (x2 : (List Ty)) (x1 : Tm) (s7 : Bool) : Option (Ty × Bool) := (bif s7 then some ((Ty.mk false (⟨#[]⟩ : ByteArray) []), false) else (Option.bind (ixL x2 (IntKind.i64.wrap ((IntKind.i64.wrap ((List.length x2 : Int) - 1)) - x1.i))) fun e8 => some (e8, true)))
noncomputable def terms_formed.j4 (r12 : Ty × Bool) (s15 : Bool) : Option (Ty × Bool) := (bif s15 then some ((Ty.mk false (⟨#[]⟩ : ByteArray) []), false) else (Option.bind (ixL r12.1.a 1) fun e16 => some (e16, true)))
noncomputable def terms_formed.j3 (x1 : Tm) (x2 : (List Ty)) (s10 : Bool) : Option (Ty × Bool) := (bif s10 then some ((Ty.mk false (⟨#[]⟩ : ByteArray) []), false) else (Option.bind (ixL x1.s 0) fun e11 => (Option.bind (terms_formed e11 x2) fun (r12 : Ty × Bool) => (Option.bind (ixL x1.s 1) fun e13 => (Option.bind (terms_formed e13 x2) fun (r14 : Ty × Bool) => (jn (terms_formed.j4 r12) (fun kk4 => (bif (!r12.2) then (kk4 true) else (bif (!r14.2) then (kk4 true) else (bif r12.1.v then (kk4 true) else (bif (!decide (r12.1.n = (⟨#[102, 117, 110]⟩ : ByteArray))) then (kk4 true) else (bif (!decide ((List.length r12.1.a : Int) = (2 : Int))) then (kk4 true) else (Option.bind (ixL r12.1.a 0) fun e17 => (Option.bind (types_Same e17 r14.1) fun (r18 : Bool) => (kk4 (!r18))))))))))))))))
noncomputable def terms_formed.j5 (x1 : Tm) (x2 : (List Ty)) (s20 : Bool) : Option (Ty × Bool) := (bif s20 then some ((Ty.mk false (⟨#[]⟩ : ByteArray) []), false) else (Option.bind (ixL x1.s 0) fun e21 => (Option.bind (slcT x2 (List.length x2 : Int) (List.length x2 : Int)) fun l22 => (if List.length l22 + List.length [x1.y] ≤ LIM then (Option.bind (terms_formed e21 (l22 ++ [x1.y])) fun (r23 : Ty × Bool) => (bif (!r23.2) then some ((Ty.mk false (⟨#[]⟩ : ByteArray) []), false) else (Option.bind (types_Check (Ty.mk false (⟨#[102, 117, 110]⟩ : ByteArray) [x1.y, r23.1])) fun (r24 : Int) => some ((Ty.mk false (⟨#[102, 117, 110]⟩ : ByteArray) [x1.y, r23.1]), (decide (r24 = (0 : Int))))))) else none))))
noncomputable def terms_formed.j1 (x1 : Tm) (x2 : (List Ty)) (s3 : Bool) : Option (Ty × Bool) := (bif s3 then (Option.bind (terms_plain x1 true true false) fun (r4 : Bool) => (bif r4 then (Option.bind (terms_named x1.n) fun (r5 : Bool) => (bif r5 then (bif (decide ((List.length x1.s : Int) = (0 : Int))) then (Option.bind (types_Check x1.y) fun (r6 : Int) => some (x1.y, (decide (r6 = (0 : Int))))) else some (x1.y, false)) else some (x1.y, false))) else some (x1.y, false))) else (bif (decide (x1.k = (3 : Int))) then (jn (terms_formed.j2 x2 x1) (fun kk2 => (Option.bind (terms_plain x1 false false true) fun (r9 : Bool) => (bif (!r9) then (kk2 true) else (bif (decide ((0 : Int) < (List.length x1.s : Int))) then (kk2 true) else (bif (decide (x1.i < (0 : Int))) then (kk2 true) else (kk2 (decide ((List.length x2 : Int) ≤ x1.i))))))))) else (bif (decide (x1.k = (4 : Int))) then (jn (terms_formed.j3 x1 x2) (fun kk3 => (Option.bind (terms_plain x1 false false false) fun (r19 : Bool) => (bif (!r19) then (kk3 true) else (kk3 (!decide ((List.length x1.s : Int) = (2 : Int)))))))) else (bif (decide (x1.k = (5 : Int))) then (jn (terms_formed.j5 x1 x2) (fun kk5 => (Option.bind (terms_plain x1 true true false) fun (r25 : Bool) => (bif (!r25) then (kk5 true) else (bif (!decide ((List.length x1.s : Int) = (1 : Int))) then (kk5 true) else (Option.bind (terms_named x1.n) fun (r26 : Bool) => (bif (!r26) then (kk5 true) else (Option.bind (types_Check x1.y) fun (r27 : Int) => (kk5 (!decide (r27 = (0 : Int)))))))))))) else some ((Ty.mk false (⟨#[]⟩ : ByteArray) []), false)))))
theorem terms_formed_eq (x1 : Tm) (x2 : (List Ty)) : terms_formed x1 x2 = (jn (terms_formed.j1 x1 x2) (fun kk1 => (bif (decide (x1.k = (1 : Int))) then (kk1 true) else (kk1 (decide (x1.k = (2 : Int))))))) :=
  (ans_eq G_ok (x := c106) (l := [.p .ty, .p .bool]) (by kernel_rfl) rfl (by kernel_rfl)).trans (by kernel_rfl)
/-- sequent/terms.typed -/
noncomputable def terms_typed (t1 : Tm) : Option (Ty × Int) := ans X 83 (.tup [.p .ty, .p .int]) [.v .tm t1]
theorem terms_typed_eq (t1 : Tm) : terms_typed t1 = (Option.bind (terms_great t1) fun (r2 : Bool) => (bif r2 then some ((Ty.mk false (⟨#[]⟩ : ByteArray) []), 21) else (Option.bind (terms_formed t1 []) fun (r3 : Ty × Bool) => (bif (!r3.2) then some ((Ty.mk false (⟨#[]⟩ : ByteArray) []), 20) else some (r3.1, 0))))) :=
  (ans_eq G_ok (x := c83) (l := [.p .ty, .p .int]) (by kernel_rfl) rfl (by kernel_rfl)).trans (by kernel_rfl)
/-- sequent/terms.Check -/
noncomputable def terms_Check (t1 : Tm) : Option (Int) := ans X 46 (.p .int) [.v .tm t1]
theorem terms_Check_eq (t1 : Tm) : terms_Check t1 = (Option.bind (terms_typed t1) fun (r2 : Ty × Int) => some r2.2) :=
  (ans_eq G_ok (x := c46) (l := [.p .int]) (by kernel_rfl) rfl (by kernel_rfl)).trans (by kernel_rfl)
/-- sequent/terms.TypeOf -/
noncomputable def terms_TypeOf (t1 : Tm) : Option (Ty × Int) := ans X 49 (.tup [.p .ty, .p .int]) [.v .tm t1]
theorem terms_TypeOf_eq (t1 : Tm) : terms_TypeOf t1 = (Option.bind (terms_typed t1) fun (r2 : Ty × Int) => (Option.bind (types_Twin r2.1) fun (r3 : Ty) => some (r3, r2.2))) :=
  (ans_eq G_ok (x := c49) (l := [.p .ty, .p .int]) (by kernel_rfl) rfl (by kernel_rfl)).trans (by kernel_rfl)
/-- sequent/sequentref01.In -/
noncomputable def ref01_In (l1 : (List ByteArray)) (s2 : ByteArray) : Option (Bool) := ans X 120 (.p .bool) [.v .lstr l1, .v .str s2]
noncomputable def ref01_In.s1 (l1 : (List ByteArray)) (s2 : ByteArray) (s3 : Int) (next1 : (Int) → Option (Bool)) : Option (Bool) := (bif (decide (s3 < (List.length l1 : Int))) then (Option.bind (ixL l1 s3) fun e4 => (bif (decide (e4 = s2)) then some true else (next1 (s3 + 1)))) else some false)
theorem ref01_In_eq (l1 : (List ByteArray)) (s2 : ByteArray) : ref01_In l1 s2 = (loopN (ref01_In.s1 l1 s2) 0) :=
  (ans_eq G_ok (x := c120) (l := [.p .bool]) (by kernel_rfl) rfl (by kernel_rfl)).trans (by kernel_rfl)
/-- sequent/sequentref03.Names -/
noncomputable def ref03_Names (l1 : (List Tm)) : Option ((List ByteArray)) := ans X 104 (.p .lstr) [.v .ltm l1]
noncomputable def ref03_Names.s2 (next1 : (Int × (List ByteArray)) → Option ((List ByteArray))) (s2 : Int × (List ByteArray)) (s5 : Int × (List ByteArray) × (List Tm)) (next2 : (Int × (List ByteArray) × (List Tm)) → Option ((List ByteArray))) : Option ((List ByteArray)) := (bif (decide (s5.1 < (List.length s5.2.2 : Int))) then (if 0 ≤ s5.1 ∧ s5.1 < (List.length s5.2.2 : Int) then (Option.bind (s5.2.2[(Int.toNat s5.1)]?) fun e6 => (if List.length s5.2.1 + List.length [e6.n] ≤ LIM then (next2 ((s5.1 + 1), (s5.2.1 ++ [e6.n]), s5.2.2)) else none)) else none) else (next1 ((s2.1 + 1), s5.2.1)))
noncomputable def ref03_Names.s1 (l1 : (List Tm)) (s2 : Int × (List ByteArray)) (next1 : (Int × (List ByteArray)) → Option ((List ByteArray))) : Option ((List ByteArray)) := (bif (decide (s2.1 < (List.length l1 : Int))) then (Option.bind (ixL l1 s2.1) fun e3 => (Option.bind (ref02_Vars e3) fun (r4 : (List Tm)) => (loopN (ref03_Names.s2 next1 s2) (0, s2.2, r4)))) else some s2.2)
theorem ref03_Names_eq (l1 : (List Tm)) : ref03_Names l1 = (loopN (ref03_Names.s1 l1) (0, [])) :=
  (ans_eq G_ok (x := c104) (l := [.p .lstr]) (by kernel_rfl) rfl (by kernel_rfl)).trans (by kernel_rfl)
/-- sequent/sequentref03.Fresh -/
noncomputable def ref03_Fresh (used1 : (List ByteArray)) (s2 : ByteArray) : Option (ByteArray) := ans X 103 (.p .str) [.v .lstr used1, .v .str s2]
noncomputable def ref03_Fresh.s1 (used1 : (List ByteArray)) (s3 : ByteArray) (next1 : (ByteArray) → Option (ByteArray)) : Option (ByteArray) := (Option.bind (ref01_In used1 s3) fun (r4 : Bool) => (bif r4 then (if ByteArray.size s3 + ByteArray.size (⟨#[39]⟩ : ByteArray) ≤ LIM then (next1 (s3 ++ (⟨#[39]⟩ : ByteArray))) else none) else some s3))
theorem ref03_Fresh_eq (used1 : (List ByteArray)) (s2 : ByteArray) : ref03_Fresh used1 s2 = (loopN (ref03_Fresh.s1 used1) s2) :=
  (ans_eq G_ok (x := c103) (l := [.p .str]) (by kernel_rfl) rfl (by kernel_rfl)).trans (by kernel_rfl)
/-- sequent/sequentref03.Variant -/
noncomputable def ref03_Variant (avoid1 : (List Tm)) (v2 : Tm) : Option (Tm × Int) := ans X 68 (.tup [.p .tm, .p .int]) [.v .ltm avoid1, .v .tm v2]
noncomputable def ref03_Variant.j1 (v2 : Tm) (avoid1 : (List Tm)) (s4 : Int) : Option (Tm × Int) := (bif (!decide (s4 = (0 : Int))) then some ((Tm.mk 0 (⟨#[]⟩ : ByteArray) (Ty.mk false (⟨#[]⟩ : ByteArray) []) 0 []), s4) else (bif (!decide (v2.k = (1 : Int))) then some ((Tm.mk 0 (⟨#[]⟩ : ByteArray) (Ty.mk false (⟨#[]⟩ : ByteArray) []) 0 []), 20) else (Option.bind (ref03_Names avoid1) fun (r5 : (List ByteArray)) => (Option.bind (ref03_Fresh r5 v2.n) fun (r6 : ByteArray) => (bif (decide ((30 : Int) < (ByteArray.size r6 : Int))) then some ((Tm.mk 0 (⟨#[]⟩ : ByteArray) (Ty.mk false (⟨#[]⟩ : ByteArray) []) 0 []), 60) else (Option.bind (ref01_Twin v2.y) fun (r7 : Ty) => some ((Tm.mk 1 r6 r7 0 []), 0)))))))
theorem ref03_Variant_eq (avoid1 : (List Tm)) (v2 : Tm) : ref03_Variant avoid1 v2 = (Option.bind (ref02_Checks avoid1) fun (r3 : Int) => (jn (ref03_Variant.j1 v2 avoid1) (fun kk1 => (bif (decide (r3 = (0 : Int))) then (Option.bind (ref02_Check v2) fun (r8 : Int) => (kk1 r8)) else (kk1 r3))))) :=
  (ans_eq G_ok (x := c68) (l := [.p .tm, .p .int]) (by kernel_rfl) rfl (by kernel_rfl)).trans (by kernel_rfl)
/-- sequent/sequentref28.Fresh -/
noncomputable def ref28_Fresh (g1 : Ssequent) (v2 : Tm) : Option (Tm × Int) := ans X 30 (.tup [.p .tm, .p .int]) [.v .sequent g1, .v .tm v2]
theorem ref28_Fresh_eq (g1 : Ssequent) (v2 : Tm) : ref28_Fresh g1 v2 = (if List.length g1.hyps ≤ LIM then (if List.length g1.hyps + List.length [g1.concl] ≤ LIM then (Option.bind (ref03_Variant (g1.hyps ++ [g1.concl]) v2) fun (r3 : Tm × Int) => some (r3.1, r3.2)) else none) else none) :=
  (ans_eq G_ok (x := c30) (l := [.p .tm, .p .int]) (by kernel_rfl) rfl (by kernel_rfl)).trans (by kernel_rfl)
/-- slices.Index[[]string,string] -/
noncomputable def Index_str (s1 : (List ByteArray)) (v2 : ByteArray) : Option (Int) := ans X 119 (.p .int) [.v .lstr s1, .v .str v2]
noncomputable def Index_str.s1 (s1 : (List ByteArray)) (v2 : ByteArray) (s3 : Int) (next1 : (Int) → Option (Int)) : Option (Int) := (bif (decide (s3 < (List.length s1 : Int))) then (Option.bind (ixL s1 s3) fun e4 => (bif (decide (v2 = e4)) then some s3 else (next1 (s3 + 1)))) else some (-1))
theorem Index_str_eq (s1 : (List ByteArray)) (v2 : ByteArray) : Index_str s1 v2 = (loopN (Index_str.s1 s1 v2) 0) :=
  (ans_eq G_ok (x := c119) (l := [.p .int]) (by kernel_rfl) rfl (by kernel_rfl)).trans (by kernel_rfl)
/-- slices.Contains[[]string,string] -/
noncomputable def Contains_str (s1 : (List ByteArray)) (v2 : ByteArray) : Option (Bool) := ans X 102 (.p .bool) [.v .lstr s1, .v .str v2]
theorem Contains_str_eq (s1 : (List ByteArray)) (v2 : ByteArray) : Contains_str s1 v2 = (Option.bind (Index_str s1 v2) fun (r3 : Int) => some (decide ((0 : Int) ≤ r3))) :=
  (ans_eq G_ok (x := c102) (l := [.p .bool]) (by kernel_rfl) rfl (by kernel_rfl)).trans (by kernel_rfl)
/-- slices.Clone[[]sequent/api.Term,sequent/api.Term] -/
noncomputable def Clone_tm (s1 : (List Tm)) : Option ((List Tm)) := ans X 67 (.p .ltm) [.v .ltm s1]
theorem Clone_tm_eq (s1 : (List Tm)) : Clone_tm s1 = (bif List.isEmpty s1 then (agree (some []) (if List.length ([] : List Tm) + List.length s1 ≤ LIM then some (([] : List Tm) ++ s1) else none)) else (if List.length ([] : List Tm) + List.length s1 ≤ LIM then some (([] : List Tm) ++ s1) else none)) :=
  (ans_eq G_ok (x := c67) (l := [.p .ltm]) (by kernel_rfl) rfl (by kernel_rfl)).trans (by kernel_rfl)
/-- slices.Clone[[]sequent/api.Term,sequent/api.Term] -/
noncomputable def Clone_tmo (s1 : (List Tm)) : Option ((List Tm)) := ansG X 1 67 ho67v1 rs67v1 [] [.v .ltm s1]
theorem Clone_tmo_eq (s1 : (List Tm)) : Clone_tmo s1 = (bif List.isEmpty s1 then (agree (some []) (if List.length ([] : List Tm) + List.length s1 ≤ LIM then some (([] : List Tm) ++ s1) else none)) else (if List.length ([] : List Tm) + List.length s1 ≤ LIM then some (([] : List Tm) ++ s1) else none)) :=
  (ansG_eq G_ok (x := c67v1) (n := 0) (ho := ho67v1) (l := [.row 0]) (by kernel_rfl) rfl (by kernel_rfl) ⟨fun _ => ⟨_, _, rfl⟩, trivial⟩ (by kernel_rfl)).trans (by kernel_rfl)
/-- slices.Delete[[]sequent/api.Term,sequent/api.Term] -/
noncomputable def Delete_tm (h1 : (List Tm)) (i2 : Int) (j3 : Int) : Option ((List Tm)) := ansG X 1 64 ho64v1 rs64v1 [.row 27 .tm h1] [.row 0, .v .int i2, .v .int j3]
theorem Delete_tm_eq (h1 : (List Tm)) (i2 : Int) (j3 : Int) : Delete_tm h1 i2 j3 = (if 0 ≤ i2 ∧ i2 ≤ j3 ∧ j3 ≤ (List.length h1 : Int) ∧ (List.length h1 : Int) ≤ (List.length h1 : Int) then (bif (decide (i2 = j3)) then some h1 else (if 0 ≤ (0 : Int) ∧ (0 : Int) ≤ i2 ∧ i2 ≤ (List.length h1 : Int) ∧ (List.length h1 : Int) ≤ (List.length h1 : Int) then (if 0 ≤ j3 ∧ j3 ≤ (List.length h1 : Int) ∧ (List.length h1 : Int) ≤ (List.length h1 : Int) ∧ (List.length h1 : Int) ≤ (List.length h1 : Int) then (if (Int.toNat i2 - 0) + (Int.toNat (List.length h1 : Int) - Int.toNat j3) ≤ List.length h1 ∧ (Int.toNat j3) + (Int.toNat (List.length h1 : Int) - Int.toNat j3) ≤ List.length h1 then (if 0 ≤ ((((Int.toNat i2 - 0) + (Int.toNat (List.length h1 : Int) - Int.toNat j3)) : Nat) : Int) ∧ ((((Int.toNat i2 - 0) + (Int.toNat (List.length h1 : Int) - Int.toNat j3)) : Nat) : Int) ≤ (List.length h1 : Int) ∧ (List.length h1 : Int) ≤ (List.length (List.take (Int.toNat i2 - 0) h1 ++ List.take (Int.toNat (List.length h1 : Int) - Int.toNat j3) (List.drop (Int.toNat j3) h1) ++ List.drop ((Int.toNat i2 - 0) + (Int.toNat (List.length h1 : Int) - Int.toNat j3)) h1) : Int) ∧ (List.length (List.take (Int.toNat i2 - 0) h1 ++ List.take (Int.toNat (List.length h1 : Int) - Int.toNat j3) (List.drop (Int.toNat j3) h1) ++ List.drop ((Int.toNat i2 - 0) + (Int.toNat (List.length h1 : Int) - Int.toNat j3)) h1) : Int) ≤ (List.length (List.take (Int.toNat i2 - 0) h1 ++ List.take (Int.toNat (List.length h1 : Int) - Int.toNat j3) (List.drop (Int.toNat j3) h1) ++ List.drop ((Int.toNat i2 - 0) + (Int.toNat (List.length h1 : Int) - Int.toNat j3)) h1) : Int) then (if (0 + Int.toNat ((((Int.toNat i2 - 0) + (Int.toNat (List.length h1 : Int) - Int.toNat j3)) : Nat) : Int)) + (Int.toNat (List.length h1 : Int) - Int.toNat ((((Int.toNat i2 - 0) + (Int.toNat (List.length h1 : Int) - Int.toNat j3)) : Nat) : Int)) ≤ List.length (List.take (Int.toNat i2 - 0) h1 ++ List.take (Int.toNat (List.length h1 : Int) - Int.toNat j3) (List.drop (Int.toNat j3) h1) ++ List.drop ((Int.toNat i2 - 0) + (Int.toNat (List.length h1 : Int) - Int.toNat j3)) h1) then (if ((Int.toNat i2 - 0) + (Int.toNat (List.length h1 : Int) - Int.toNat j3)) ≤ List.length (List.take (0 + Int.toNat ((((Int.toNat i2 - 0) + (Int.toNat (List.length h1 : Int) - Int.toNat j3)) : Nat) : Int)) (List.take (Int.toNat i2 - 0) h1 ++ List.take (Int.toNat (List.length h1 : Int) - Int.toNat j3) (List.drop (Int.toNat j3) h1) ++ List.drop ((Int.toNat i2 - 0) + (Int.toNat (List.length h1 : Int) - Int.toNat j3)) h1) ++ List.replicate (Int.toNat (List.length h1 : Int) - Int.toNat ((((Int.toNat i2 - 0) + (Int.toNat (List.length h1 : Int) - Int.toNat j3)) : Nat) : Int)) (Tm.mk 0 (⟨#[]⟩ : ByteArray) (Ty.mk false (⟨#[]⟩ : ByteArray) []) 0 []) ++ List.drop ((0 + Int.toNat ((((Int.toNat i2 - 0) + (Int.toNat (List.length h1 : Int) - Int.toNat j3)) : Nat) : Int)) + (Int.toNat (List.length h1 : Int) - Int.toNat ((((Int.toNat i2 - 0) + (Int.toNat (List.length h1 : Int) - Int.toNat j3)) : Nat) : Int))) (List.take (Int.toNat i2 - 0) h1 ++ List.take (Int.toNat (List.length h1 : Int) - Int.toNat j3) (List.drop (Int.toNat j3) h1) ++ List.drop ((Int.toNat i2 - 0) + (Int.toNat (List.length h1 : Int) - Int.toNat j3)) h1)) then some (List.take ((Int.toNat i2 - 0) + (Int.toNat (List.length h1 : Int) - Int.toNat j3)) (List.take (0 + Int.toNat ((((Int.toNat i2 - 0) + (Int.toNat (List.length h1 : Int) - Int.toNat j3)) : Nat) : Int)) (List.take (Int.toNat i2 - 0) h1 ++ List.take (Int.toNat (List.length h1 : Int) - Int.toNat j3) (List.drop (Int.toNat j3) h1) ++ List.drop ((Int.toNat i2 - 0) + (Int.toNat (List.length h1 : Int) - Int.toNat j3)) h1) ++ List.replicate (Int.toNat (List.length h1 : Int) - Int.toNat ((((Int.toNat i2 - 0) + (Int.toNat (List.length h1 : Int) - Int.toNat j3)) : Nat) : Int)) (Tm.mk 0 (⟨#[]⟩ : ByteArray) (Ty.mk false (⟨#[]⟩ : ByteArray) []) 0 []) ++ List.drop ((0 + Int.toNat ((((Int.toNat i2 - 0) + (Int.toNat (List.length h1 : Int) - Int.toNat j3)) : Nat) : Int)) + (Int.toNat (List.length h1 : Int) - Int.toNat ((((Int.toNat i2 - 0) + (Int.toNat (List.length h1 : Int) - Int.toNat j3)) : Nat) : Int))) (List.take (Int.toNat i2 - 0) h1 ++ List.take (Int.toNat (List.length h1 : Int) - Int.toNat j3) (List.drop (Int.toNat j3) h1) ++ List.drop ((Int.toNat i2 - 0) + (Int.toNat (List.length h1 : Int) - Int.toNat j3)) h1))) else none) else none) else none) else none) else none) else none)) else none) :=
  (ansG_eq G_ok (x := c64v1) (n := 1) (ho := ho64v1) (l := [.row 0]) (by kernel_rfl) rfl (by kernel_rfl) ⟨fun _ => ⟨_, _, rfl⟩, trivial⟩ (by kernel_rfl)).trans (by kernel_rfl)
/-- slices.Insert[[]sequent/api.Term,sequent/api.Term] -/
noncomputable def Insert_tm (h1 : (List Tm)) (x2 : Int) (x3 : (List Tm)) : Option ((List Tm)) := ansG X 1 63 ho63v1 rs63v1 [.row 27 .tm h1] [.row 0, .v .int x2, .v .ltm x3]
theorem Insert_tm_eq (h1 : (List Tm)) (x2 : Int) (x3 : (List Tm)) : Insert_tm h1 x2 x3 = dcG ho63v1 rs63v1 (pIns [.row 27 .tm h1] [.row 0, .v .int x2, .v .ltm x3]) := ansG_prim (by kernel_rfl)
/-- (*sequent/terms.walker).note$1 -/
noncomputable def note1 (v1 : Tm) (x2 : Tm) : Option (Bool) := ans X 132 (.p .bool) [.v .tm v1, .ip (.v .tm x2) 0 []]
theorem note1_eq (v1 : Tm) (x2 : Tm) : note1 v1 x2 = (Option.bind (terms_Same v1 x2) fun (r3 : Bool) => some r3) :=
  (ans_eq G_ok (x := c132) (l := [.p .bool]) (by kernel_rfl) rfl (by kernel_rfl)).trans (by kernel_rfl)
/-- sequent/types.Vars -/
noncomputable def types_Vars (t1 : Ty) : Option ((List ByteArray) × Int) := ans X 133 (.tup [.p .lstr, .p .int]) [.v .ty t1]
noncomputable def types_Vars.j2 (v5 : Ty) (next1 : ((List ByteArray)) → Option ((List ByteArray) × Int)) (s6 : Bool × (List ByteArray)) : Option ((List ByteArray) × Int) := (bif s6.1 then (if List.length s6.2 + List.length [v5.n] ≤ LIM then (next1 (s6.2 ++ [v5.n])) else none) else (next1 s6.2))
noncomputable def types_Vars.f1 (v5 : Ty) (s4 : (List ByteArray)) (next1 : ((List ByteArray)) → Option ((List ByteArray) × Int)) : Option ((List ByteArray) × Int) := (jn (types_Vars.j2 v5 next1) (fun kk2 => (bif v5.v then (Option.bind (Contains_str s4 v5.n) fun (r7 : Bool) => (kk2 ((!r7), s4))) else (kk2 (false, s4)))))
noncomputable def types_Vars.d1 (s8 : (List ByteArray)) : Option ((List ByteArray) × Int) := some (s8, 0)
theorem types_Vars_eq (t1 : Ty) : types_Vars t1 = (Option.bind (types_Check t1) fun (r2 : Int) => (bif (!decide (r2 = (0 : Int))) then some ([], r2) else (Option.bind (types_nodes t1) fun (r3 : Ty) => (forR (types_Vars.f1) (types_Vars.d1) (pre r3) [])))) :=
  (ans_eq G_ok (x := c133) (l := [.p .lstr, .p .int]) (by kernel_rfl) rfl (by kernel_rfl)).trans (by kernel_rfl)
/-- slices.ContainsFunc[[]sequent/api.Term,sequent/api.Term] -/
noncomputable def ContainsFunc_tm (s1 : (List Tm)) (f2 : Nat) (c3 : Tm) : Option (Bool) := ans X 131 (.p .bool) [.v .ltm s1, .fn f2 [] [.ip (.v .tm c3) 0 []]]
theorem ContainsFunc_tm_eq (s1 : (List Tm)) (f2 : Nat) (c3 : Tm) : ContainsFunc_tm s1 f2 c3 = (Option.bind (IndexFunc_tm s1 f2 c3) fun (r4 : Int) => some (decide ((0 : Int) ≤ r4))) :=
  (ans_eq G_ok (x := c131) (l := [.p .bool]) (by kernel_rfl) rfl (by kernel_rfl)).trans (by kernel_rfl)
/-- (*sequent/terms.walker).note -/
noncomputable def terms_note (h1 : (List Tm)) (h2 : (List ByteArray)) (x3 : Tm) : Option ((List Tm) × (List ByteArray)) := ansG X 1 117 ho117v1 rs117v1 [.box 114 (.ag .walker [.row 1, .row 2]), .row 27 .tm h1, .row 9 .str h2] [.ptr 0 0 [], .v .tm x3]
noncomputable def terms_note.j4 (next3 : (Int × (List Tm) × (List ByteArray)) → Option ((List Tm) × (List ByteArray))) (s7 : Int × (List Tm) × (List ByteArray)) (s8 : (List Tm) × (List ByteArray)) : Option ((List Tm) × (List ByteArray)) := (next3 ((s7.1 + 1), s8.1, s8.2))
noncomputable def terms_note.s3 (r6 : (List ByteArray) × Int) (s7 : Int × (List Tm) × (List ByteArray)) (next3 : (Int × (List Tm) × (List ByteArray)) → Option ((List Tm) × (List ByteArray))) : Option ((List Tm) × (List ByteArray)) := (bif (decide (s7.1 < (List.length r6.1 : Int))) then (jn (terms_note.j4 next3 s7) (fun kk4 => (Option.bind (ixL r6.1 s7.1) fun e9 => (Option.bind (Contains_str s7.2.2 e9) fun (r10 : Bool) => (bif (!r10) then (if List.length s7.2.2 + List.length [e9] ≤ LIM then (kk4 (s7.2.1, (s7.2.2 ++ [e9]))) else none) else (kk4 (s7.2.1, s7.2.2))))))) else some (s7.2.1, s7.2.2))
noncomputable def terms_note.j2 (x3 : Tm) (s5 : Bool × (List Tm) × (List ByteArray)) : Option ((List Tm) × (List ByteArray)) := (bif s5.1 then some (s5.2.1, s5.2.2) else (Option.bind (types_Vars x3.y) fun (r6 : (List ByteArray) × Int) => (loopN (terms_note.s3 r6) (0, s5.2.1, s5.2.2))))
noncomputable def terms_note.j1 (x3 : Tm) (s4 : (List Tm) × (List ByteArray)) : Option ((List Tm) × (List ByteArray)) := (jn (terms_note.j2 x3) (fun kk2 => (bif (decide (x3.k = (4 : Int))) then (kk2 (true, s4.1, s4.2)) else (kk2 ((decide (x3.k = (3 : Int))), s4.1, s4.2)))))
noncomputable def terms_note.j5 (x3 : Tm) (kk1 : ((List Tm) × (List ByteArray)) → Option ((List Tm) × (List ByteArray))) (s11 : Bool × (List Tm) × (List ByteArray)) : Option ((List Tm) × (List ByteArray)) := (bif s11.1 then (Option.bind (terms_Twin x3) fun (r12 : Tm) => (if List.length s11.2.1 + List.length [(Tm.mk 0 (⟨#[]⟩ : ByteArray) (Ty.mk false (⟨#[]⟩ : ByteArray) []) 0 [])] ≤ LIM then (if 0 ≤ (List.length s11.2.1 : Int) ∧ (List.length s11.2.1 : Int) < (List.length (s11.2.1 ++ [(Tm.mk 0 (⟨#[]⟩ : ByteArray) (Ty.mk false (⟨#[]⟩ : ByteArray) []) 0 [])]) : Int) then (if (Int.toNat (List.length s11.2.1 : Int)) < List.length (s11.2.1 ++ [(Tm.mk 0 (⟨#[]⟩ : ByteArray) (Ty.mk false (⟨#[]⟩ : ByteArray) []) 0 [])]) then (kk1 ((List.set (s11.2.1 ++ [(Tm.mk 0 (⟨#[]⟩ : ByteArray) (Ty.mk false (⟨#[]⟩ : ByteArray) []) 0 [])]) (Int.toNat (List.length s11.2.1 : Int)) r12), s11.2.2)) else none) else none) else none)) else (kk1 (s11.2.1, s11.2.2)))
theorem terms_note_eq (h1 : (List Tm)) (h2 : (List ByteArray)) (x3 : Tm) : terms_note h1 h2 x3 = (jn (terms_note.j1 x3) (fun kk1 => (jn (terms_note.j5 x3 kk1) (fun kk5 => (bif (decide (x3.k = (1 : Int))) then (Option.bind (ContainsFunc_tm h1 132 x3) fun (r13 : Bool) => (kk5 ((!r13), h1, h2))) else (kk5 (false, h1, h2))))))) :=
  (ansG_eq G_ok (x := c117v1) (n := 3) (ho := ho117v1) (l := []) (by kernel_rfl) rfl (by kernel_rfl) ⟨fun _ => ⟨_, _, rfl⟩, ⟨fun _ => ⟨_, _, rfl⟩, trivial⟩⟩ (by kernel_rfl)).trans (by kernel_rfl)
/-- sequent/terms.each -/
noncomputable def terms_each (h1 : (List Tm)) (h2 : (List ByteArray)) (t3 : Tm) : Option ((List Tm) × (List ByteArray)) := ansG X 1 118 ho118v1 rs118v1 [.box 114 (.ag .walker [.row 1, .row 2]), .row 27 .tm h1, .row 9 .str h2] [.v .tm t3, .fn 117 [.ptr 0 0 []] []]
noncomputable def terms_each.s1 (t3 : Tm) (s5 : Int × (List Tm) × (List ByteArray)) (next1 : (Int × (List Tm) × (List ByteArray)) → Option ((List Tm) × (List ByteArray))) : Option ((List Tm) × (List ByteArray)) := (bif (decide (s5.1 < (List.length t3.s : Int))) then (Option.bind (ixL t3.s s5.1) fun e6 => (Option.bind (terms_each s5.2.1 s5.2.2 e6) fun (r7 : (List Tm) × (List ByteArray)) => (next1 ((s5.1 + 1), r7.1, r7.2)))) else some (s5.2.1, s5.2.2))
theorem terms_each_eq (h1 : (List Tm)) (h2 : (List ByteArray)) (t3 : Tm) : terms_each h1 h2 t3 = (Option.bind (terms_note h1 h2 t3) fun (r4 : (List Tm) × (List ByteArray)) => (loopN (terms_each.s1 t3) (0, r4.1, r4.2))) :=
  (ansG_eq G_ok (x := c118v1) (n := 3) (ho := ho118v1) (l := []) (by kernel_rfl) rfl (by kernel_rfl) ⟨fun _ => ⟨_, _, rfl⟩, ⟨fun _ => ⟨_, _, rfl⟩, trivial⟩⟩ (by kernel_rfl)).trans (by kernel_rfl)
/-- sequent/terms.Free -/
noncomputable def terms_Free (t1 : Tm) : Option ((List Tm) × Int) := ans X 100 (.tup [.p .ltm, .p .int]) [.v .tm t1]
theorem terms_Free_eq (t1 : Tm) : terms_Free t1 = (Option.bind (terms_Check t1) fun (r2 : Int) => (bif (!decide (r2 = (0 : Int))) then some ([], r2) else (Option.bind (terms_each [] [] t1) fun (r3 : (List Tm) × (List ByteArray)) => some (r3.1, 0)))) :=
  (ans_eq G_ok (x := c100) (l := [.p .ltm, .p .int]) (by kernel_rfl) rfl (by kernel_rfl)).trans (by kernel_rfl)
/-- sequent/subst.variable -/
noncomputable def subst_variable (v1 : Tm) : Option (Int) := ans X 101 (.p .int) [.v .tm v1]
theorem subst_variable_eq (v1 : Tm) : subst_variable v1 = (Option.bind (terms_Check v1) fun (r2 : Int) => (bif (!decide (r2 = (0 : Int))) then some r2 else (bif (!decide (v1.k = (1 : Int))) then some 20 else some 0))) :=
  (ans_eq G_ok (x := c101) (l := [.p .int]) (by kernel_rfl) rfl (by kernel_rfl)).trans (by kernel_rfl)
/-- sequent/subst.Variant -/
noncomputable def subst_Variant (x1 : (List Tm)) (x2 : Tm) : Option (Tm × Int) := ans X 66 (.tup [.p .tm, .p .int]) [.v .ltm x1, .v .tm x2]
noncomputable def subst_Variant.s2 (r5 : (List Tm) × Int) (next1 : (Int × Tm × (List ByteArray)) → Option (Tm × Int)) (s3 : Int × Tm × (List ByteArray)) (s6 : Int × (List ByteArray)) (next2 : (Int × (List ByteArray)) → Option (Tm × Int)) : Option (Tm × Int) := (bif (decide (s6.1 < (List.length r5.1 : Int))) then (Option.bind (ixL r5.1 s6.1) fun e7 => (if List.length s6.2 + List.length [e7.n] ≤ LIM then (next2 ((s6.1 + 1), (s6.2 ++ [e7.n]))) else none)) else (next1 ((s3.1 + 1), s3.2.1, s6.2)))
noncomputable def subst_Variant.s3 (x2 : Tm) (s9 : ByteArray × (List ByteArray)) (next3 : (ByteArray × (List ByteArray)) → Option (Tm × Int)) : Option (Tm × Int) := (Option.bind (Contains_str s9.2 s9.1) fun (r10 : Bool) => (bif r10 then (if ByteArray.size s9.1 + ByteArray.size (⟨#[39]⟩ : ByteArray) ≤ LIM then (next3 ((s9.1 ++ (⟨#[39]⟩ : ByteArray)), s9.2)) else none) else (bif (decide ((30 : Int) < (ByteArray.size s9.1 : Int))) then some ((Tm.mk 0 (⟨#[]⟩ : ByteArray) (Ty.mk false (⟨#[]⟩ : ByteArray) []) 0 []), 60) else (Option.bind (terms_Twin x2) fun (r11 : Tm) => some ((Tm.mk r11.k s9.1 r11.y r11.i r11.s), 0)))))
noncomputable def subst_Variant.s1 (x1 : (List Tm)) (x2 : Tm) (s3 : Int × Tm × (List ByteArray)) (next1 : (Int × Tm × (List ByteArray)) → Option (Tm × Int)) : Option (Tm × Int) := (bif (decide (s3.1 < (List.length x1 : Int))) then (Option.bind (ixL x1 s3.1) fun e4 => (Option.bind (terms_Free e4) fun (r5 : (List Tm) × Int) => (bif (!decide (r5.2 = (0 : Int))) then some ((Tm.mk 0 (⟨#[]⟩ : ByteArray) (Ty.mk false (⟨#[]⟩ : ByteArray) []) 0 []), r5.2) else (loopN (subst_Variant.s2 r5 next1 s3) (0, s3.2.2))))) else (Option.bind (subst_variable x2) fun (r8 : Int) => (bif (!decide (r8 = (0 : Int))) then some ((Tm.mk 0 (⟨#[]⟩ : ByteArray) (Ty.mk false (⟨#[]⟩ : ByteArray) []) 0 []), r8) else (loopN (subst_Variant.s3 x2) (x2.n, s3.2.2)))))
theorem subst_Variant_eq (x1 : (List Tm)) (x2 : Tm) : subst_Variant x1 x2 = (loopN (subst_Variant.s1 x1 x2) (0, (Tm.mk 0 (⟨#[]⟩ : ByteArray) (Ty.mk false (⟨#[]⟩ : ByteArray) []) 0 []), [])) :=
  (ans_eq G_ok (x := c66) (l := [.p .tm, .p .int]) (by kernel_rfl) rfl (by kernel_rfl)).trans (by kernel_rfl)
/-- sequent/goal.Fresh -/
noncomputable def goal_Fresh (g1 : Ssequent) (v2 : Tm) : Option (Tm × Int) := ans X 29 (.tup [.p .tm, .p .int]) [.v .sequent g1, .v .tm v2]
theorem goal_Fresh_eq (g1 : Ssequent) (v2 : Tm) : goal_Fresh g1 v2 = (Option.bind (Clone_tmo g1.hyps) fun (r3 : (List Tm)) => (if List.length r3 + List.length [g1.concl] ≤ LIM then (Option.bind (subst_Variant (r3 ++ [g1.concl]) v2) fun (r4 : Tm × Int) => some (r4.1, r4.2)) else none)) :=
  (ans_eq G_ok (x := c29) (l := [.p .tm, .p .int]) (by kernel_rfl) rfl (by kernel_rfl)).trans (by kernel_rfl)
/-- sequent/goal.Twin -/
noncomputable def goal_TwinO (g1 : Ssequent) : Option ((List Tm) × Tm) := ansG X 1 31 ho31v1 rs31v1 [] [.v .sequent g1]
noncomputable def goal_TwinO.s1 (g1 : Ssequent) (s3 : Int × Tm × (List Tm)) (next1 : (Int × Tm × (List Tm)) → Option ((List Tm) × Tm)) : Option ((List Tm) × Tm) := (bif (decide (s3.1 < (List.length g1.hyps : Int))) then (Option.bind (ixL g1.hyps s3.1) fun e4 => (Option.bind (terms_Twin e4) fun (r5 : Tm) => (if List.length s3.2.2 + List.length [r5] ≤ LIM then (next1 ((s3.1 + 1), s3.2.1, (s3.2.2 ++ [r5]))) else none))) else some (s3.2.2, s3.2.1))
theorem goal_TwinO_eq (g1 : Ssequent) : goal_TwinO g1 = (Option.bind (terms_Twin g1.concl) fun (r2 : Tm) => (loopN (goal_TwinO.s1 g1) (0, r2, []))) :=
  (ansG_eq G_ok (x := c31v1) (n := 0) (ho := ho31v1) (l := [.ag .sequent [.row 0, .p .tm]]) (by kernel_rfl) rfl (by kernel_rfl) ⟨fun _ => ⟨_, _, rfl⟩, trivial⟩ (by kernel_rfl)).trans (by kernel_rfl)
/-- sequent/goal.With -/
noncomputable def goal_With (g1 : Ssequent) (p2 : Tm) : Option ((List Tm) × Tm) := ansG X 1 24 ho24v1 rs24v1 [] [.v .sequent g1, .v .tm p2]
noncomputable def goal_With.j2 (r3 : (List Tm) × Tm) (p2 : Tm) (s5 : Int × (List Tm)) (s6 : Bool × (List Tm)) : Option ((List Tm) × Tm) := (bif s6.1 then some (s6.2, r3.2) else (Option.bind (terms_Twin p2) fun (r7 : Tm) => (Option.bind (Insert_tm s6.2 s5.1 [r7]) fun (r8 : (List Tm)) => some (r8, r3.2))))
noncomputable def goal_With.j1 (r3 : (List Tm) × Tm) (p2 : Tm) (s5 : Int × (List Tm)) : Option ((List Tm) × Tm) := (jn (goal_With.j2 r3 p2 s5) (fun kk2 => (bif (decide (s5.1 < (List.length s5.2 : Int))) then (if 0 ≤ s5.1 ∧ s5.1 < (List.length s5.2 : Int) then (Option.bind (s5.2[(Int.toNat s5.1)]?) fun e9 => (Option.bind (terms_Same e9 p2) fun (r10 : Bool) => (kk2 (r10, s5.2)))) else none) else (kk2 (false, s5.2)))))
theorem goal_With_eq (g1 : Ssequent) (p2 : Tm) : goal_With g1 p2 = (Option.bind (goal_TwinO g1) fun (r3 : (List Tm) × Tm) => (Option.bind (IndexFunc_tm r3.1 60 p2) fun (r4 : Int) => (jn (goal_With.j1 r3 p2) (fun kk1 => (bif (decide (r4 < (0 : Int))) then (kk1 ((List.length r3.1 : Int), r3.1)) else (kk1 (r4, r3.1))))))) :=
  (ansG_eq G_ok (x := c24v1) (n := 0) (ho := ho24v1) (l := [.ag .sequent [.row 0, .p .tm]]) (by kernel_rfl) rfl (by kernel_rfl) ⟨fun _ => ⟨_, _, rfl⟩, trivial⟩ (by kernel_rfl)).trans (by kernel_rfl)
/-- sequent/goal.Without -/
noncomputable def goal_Without (g1 : Ssequent) (i2 : Int) : Option (Ssequent × Bool) := ans X 25 (.tup [.p .sequent, .p .bool]) [.v .sequent g1, .v .int i2]
noncomputable def goal_Without.j1 (g1 : Ssequent) (i2 : Int) (s3 : Bool) : Option (Ssequent × Bool) := (bif s3 then some ((Ssequent.mk [] (Tm.mk 0 (⟨#[]⟩ : ByteArray) (Ty.mk false (⟨#[]⟩ : ByteArray) []) 0 [])), false) else (Option.bind (goal_TwinO g1) fun (r4 : (List Tm) × Tm) => (Option.bind (Delete_tm r4.1 i2 (IntKind.i64.wrap (i2 + 1))) fun (r5 : (List Tm)) => some ((Ssequent.mk r5 r4.2), true))))
theorem goal_Without_eq (g1 : Ssequent) (i2 : Int) : goal_Without g1 i2 = (jn (goal_Without.j1 g1 i2) (fun kk1 => (bif (decide (i2 < (0 : Int))) then (kk1 true) else (kk1 (decide ((List.length g1.hyps : Int) ≤ i2)))))) :=
  (ans_eq G_ok (x := c25) (l := [.p .sequent, .p .bool]) (by kernel_rfl) rfl (by kernel_rfl)).trans (by kernel_rfl)

end Go.Ab.X
