/- A part of the proof: Q1. -/
import Derived.Test.YtjfjcmfncgfhoaaAbY
import Derived.Test.YtjfjcmfncgfhoaaProg
import Derived.KernelRfl
import Derived.Test.YtjfjcmfncgfhoaaSpD
import Derived.Test.YtjfjcmfncgfhoaaC1
set_option linter.all false
set_option maxRecDepth 100000
set_option maxHeartbeats 4000000
set_option linter.unusedSimpArgs false
set_option linter.unusedVariables false
namespace Go.Ab.Q
open Go.RowKit
noncomputable section

/-- sequent/types.rank -/
def b107 : SCode :=
  (.seq (.ops [.op (some 1) (.bx (.t 0)),
      .op (some 2) (.mv (.c (.i .i64 0)))])
  (.seq (.seq (.ops [.op (some 3) (.fa (.t 1) 0),
      .op (some 4) (.ld (.t 3) 1 false)])
  (.cond (.t 4) (.seq (.ops [.op (some 2) (.mv (.c (.i .i64 0)))])
    .ret)
    .skip))
  (.seq (.ops [.op (some 2) (.mv (.c (.i .i64 1)))])
  .ret)))
theorem s107_ok : fnOk Go.Proofs.Try.prog Go.Proofs.Try.f107 ⟨5, [.t 2], b107⟩ = true := by kernel_rfl
def types_rank (t1 : Ty) : Int := (bif t1.v then 0 else 1)
theorem types_rank_pc (t1 : Ty) : PC Go.Proofs.Try.prog 107 [.agg (tyC t1)] (.i .i64 (types_rank t1)) := by
  obtain ⟨r, hF⟩ : ∃ r, types_rank t1 = r := ⟨_, rfl⟩
  rw [hF]
  refine PC_z Go.Proofs.Try.func107 s107_ok (Nat.le_of_ble_eq_true rfl) fun hf => ?_
  unfold b107 start
  unfold types_rank at hF
  try simp -dsimp only [go_sem]
  refine zif_of (fun h1 => ?_) (fun h1 => ?_)
  · skip
    replace hF := cond_t h1 hF
    subst hF
    simp -dsimp only [go_sem, h1]
  · skip
    replace hF := cond_f h1 hF
    subst hF
    simp -dsimp only [go_sem, h1]
/-- sequent/sequentref02.sign -/
def b79 : SCode :=
  (.seq (.ops [.op (some 4) (.mv (.c (.i .i64 0)))])
  (.seq (.seq (.ops [.op (some 5) (.mv (.t 1))])
  (.cond (.t 5) (.seq (.ops [.op (some 4) (.mv (.c (.i .i64 0)))])
    .ret)
    .skip))
  (.seq (.seq (.ops [.op (some 6) (.mv (.t 0))])
  (.cond (.t 6) (.seq (.ops [.op (some 4) (.mv (.c (.i .i64 (-1))))])
    .ret)
    .skip))
  (.seq (.ops [.op (some 4) (.mv (.c (.i .i64 1)))])
  .ret))))
theorem s79_ok : fnOk Go.Proofs.Try.prog Go.Proofs.Try.f79 ⟨7, [.t 4], b79⟩ = true := by kernel_rfl
def ref02_sign (less1 : Bool) (same2 : Bool) : Int := (bif same2 then 0 else (bif less1 then (-1) else 1))
theorem ref02_sign_pc (less1 : Bool) (same2 : Bool) : PC Go.Proofs.Try.prog 79 [.b less1, .b same2] (.i .i64 (ref02_sign less1 same2)) := by
  obtain ⟨r, hF⟩ : ∃ r, ref02_sign less1 same2 = r := ⟨_, rfl⟩
  rw [hF]
  refine PC_z Go.Proofs.Try.func79 s79_ok (Nat.le_of_ble_eq_true rfl) fun hf => ?_
  unfold b79 start
  unfold ref02_sign at hF
  try simp -dsimp only [go_sem]
  refine zif_of (fun h1 => ?_) (fun h1 => ?_)
  · skip
    replace hF := cond_t h1 hF
    subst hF
    simp -dsimp only [go_sem, h1]
  · skip
    replace hF := cond_f h1 hF
    try simp -dsimp only [go_sem, h1]
    refine zif_of (fun h2 => ?_) (fun h2 => ?_)
    · skip
      replace hF := cond_t h2 hF
      subst hF
      simp -dsimp only [go_sem, h1, h2]
    · skip
      replace hF := cond_f h2 hF
      subst hF
      simp -dsimp only [go_sem, h1, h2]
/-- sequent/types.Bool -/
def b82 : SCode :=
  (.seq (.ops [.op (some 0) (.alm 24 zTy)])
  (.seq (.ops [.op (some 1) (.bld zTy [(1, 1, (.c (.s { data := #[98, 111, 111, 108] })))]),
      .op none (.st (.t 0) 3 (.t 1))])
  .ret))
theorem s82_ok : fnOk Go.Proofs.Try.prog Go.Proofs.Try.f82 ⟨2, [.c 0 3 true], b82⟩ = true := by kernel_rfl
def types_Bool : Ty := (Ty.mk false (⟨#[98, 111, 111, 108]⟩ : ByteArray) [])
theorem types_Bool_pc : PC Go.Proofs.Try.prog 82 [] (.agg (tyC types_Bool)) := by
  obtain ⟨r, hF⟩ : ∃ r, types_Bool = r := ⟨_, rfl⟩
  rw [hF]
  refine PC_z Go.Proofs.Try.func82 s82_ok (Nat.le_of_ble_eq_true rfl) fun hf => ?_
  unfold b82 start
  unfold types_Bool at hF
  subst hF
  simp -dsimp only [go_sem]
/-- sequent/sequentref01.Bool -/
def b74 : SCode :=
  (.seq (.ops [.op (some 0) (.alm 24 zTy)])
  (.seq (.ops [.op (some 1) (.bld zTy [(1, 1, (.c (.s { data := #[98, 111, 111, 108] })))]),
      .op none (.st (.t 0) 3 (.t 1))])
  .ret))
theorem s74_ok : fnOk Go.Proofs.Try.prog Go.Proofs.Try.f74 ⟨2, [.c 0 3 true], b74⟩ = true := by kernel_rfl
def ref01_Bool : Ty := (Ty.mk false (⟨#[98, 111, 111, 108]⟩ : ByteArray) [])
theorem ref01_Bool_pc : PC Go.Proofs.Try.prog 74 [] (.agg (tyC ref01_Bool)) := by
  obtain ⟨r, hF⟩ : ∃ r, ref01_Bool = r := ⟨_, rfl⟩
  rw [hF]
  refine PC_z Go.Proofs.Try.func74 s74_ok (Nat.le_of_ble_eq_true rfl) fun hf => ?_
  unfold b74 start
  unfold ref01_Bool at hF
  subst hF
  simp -dsimp only [go_sem]
/-- sequent/prove.Bool -/
def b45 : SCode :=
  (.seq (.ops [.op (some 0) (.alm 24 zTy)])
  (.seq (.ops [.call (some 1) (.c (.fn (.func 82) [] [])) [],
      .op none (.st (.t 0) 3 (.t 1))])
  .ret))
theorem s45_ok : fnOk Go.Proofs.Try.prog Go.Proofs.Try.f45 ⟨2, [.c 0 3 true], b45⟩ = true := by kernel_rfl
def prove_Bool : Ty := (lt (types_Bool) fun r1 => r1)
theorem prove_Bool_pc : PC Go.Proofs.Try.prog 45 [] (.agg (tyC prove_Bool)) := by
  obtain ⟨r, hF⟩ : ∃ r, prove_Bool = r := ⟨_, rfl⟩
  rw [hF]
  refine PC_z Go.Proofs.Try.func45 s45_ok (Nat.le_of_ble_eq_true rfl) fun hf => ?_
  unfold b45 start
  unfold prove_Bool at hF
  obtain ⟨r1, h1, hF⟩ := lt_of hF
  try simp -dsimp only [go_sem]
  have hp := (types_Bool_pc  )
  rw [h1] at hp
  refine call_ok hp (by simp -dsimp only [go_sem]) ?_
  clear hp
  subst hF
  simp -dsimp only [go_sem]
/-- cmp.isNaN[int] -/
def b115 : SCode :=
  (.seq (.ops [.op (some 2) (.mv (.c (.b false)))])
  (.seq (.ops [.op (some 3) (.mv (.t 0)),
      .op (some 4) (.mv (.t 0)),
      .op (some 5) (.bi .neq (.t 3) (.t 4)),
      .op (some 2) (.mv (.t 5))])
  .ret))
theorem s115_ok : fnOk Go.Proofs.Try.prog Go.Proofs.Try.f115 ⟨6, [.t 2], b115⟩ = true := by kernel_rfl
def isNaN_int (x1 : Int) : Bool := (!decide (x1 = x1))
theorem isNaN_int_pc (x1 : Int) : PC Go.Proofs.Try.prog 115 [.i .i64 x1] (.b (isNaN_int x1)) := by
  obtain ⟨r, hF⟩ : ∃ r, isNaN_int x1 = r := ⟨_, rfl⟩
  rw [hF]
  refine PC_z Go.Proofs.Try.func115 s115_ok (Nat.le_of_ble_eq_true rfl) fun hf => ?_
  unfold b115 start
  unfold isNaN_int at hF
  subst hF
  simp -dsimp only [go_sem]
/-- cmp.isNaN[uint8] -/
def b113 : SCode :=
  (.seq (.ops [.op (some 2) (.mv (.c (.b false)))])
  (.seq (.ops [.op (some 3) (.mv (.t 0)),
      .op (some 4) (.mv (.t 0)),
      .op (some 5) (.bi .neq (.t 3) (.t 4)),
      .op (some 2) (.mv (.t 5))])
  .ret))
theorem s113_ok : fnOk Go.Proofs.Try.prog Go.Proofs.Try.f113 ⟨6, [.t 2], b113⟩ = true := by kernel_rfl
def isNaN_u8 (x1 : Int) : Bool := (!decide (x1 = x1))
theorem isNaN_u8_pc (x1 : Int) : PC Go.Proofs.Try.prog 113 [.i .u8 x1] (.b (isNaN_u8 x1)) := by
  obtain ⟨r, hF⟩ : ∃ r, isNaN_u8 x1 = r := ⟨_, rfl⟩
  rw [hF]
  refine PC_z Go.Proofs.Try.func113 s113_ok (Nat.le_of_ble_eq_true rfl) fun hf => ?_
  unfold b113 start
  unfold isNaN_u8 at hF
  subst hF
  simp -dsimp only [go_sem]
/-- cmp.Compare[int] -/
def b96 : SCode :=
  (.seq (.ops [.op (some 4) (.mv (.c (.i .i64 0)))])
  (.seq (.ops [.op (some 7) (.mv (.t 0)),
      .call (some 8) (.c (.fn (.func 115) [] [])) [(.t 7)],
      .op (some 5) (.mv (.t 8))])
  (.seq (.ops [.op (some 9) (.mv (.t 1)),
      .call (some 10) (.c (.fn (.func 115) [] [])) [(.t 9)],
      .op (some 6) (.mv (.t 10))])
  (.seq (.seq (.ops [.op (some 11) (.mv (.t 5))])
  (.cond (.t 11) (.seq (.seq (.ops [.op (some 12) (.mv (.t 6))])
    (.cond (.t 12) (.seq (.ops [.op (some 4) (.mv (.c (.i .i64 0)))])
      .ret)
      .skip))
    (.seq (.ops [.op (some 4) (.mv (.c (.i .i64 (-1))))])
    .ret))
    .skip))
  (.seq (.seq (.ops [.op (some 13) (.mv (.t 6))])
  (.cond (.t 13) (.seq (.ops [.op (some 4) (.mv (.c (.i .i64 1)))])
    .ret)
    .skip))
  (.seq (.seq (.ops [.op (some 14) (.mv (.t 0)),
      .op (some 15) (.mv (.t 1)),
      .op (some 16) (.bi .lss (.t 14) (.t 15))])
  (.cond (.t 16) (.seq (.ops [.op (some 4) (.mv (.c (.i .i64 (-1))))])
    .ret)
    .skip))
  (.seq (.seq (.ops [.op (some 17) (.mv (.t 0)),
      .op (some 18) (.mv (.t 1)),
      .op (some 19) (.bi .gtr (.t 17) (.t 18))])
  (.cond (.t 19) (.seq (.ops [.op (some 4) (.mv (.c (.i .i64 1)))])
    .ret)
    .skip))
  (.seq (.ops [.op (some 4) (.mv (.c (.i .i64 0)))])
  .ret))))))))
theorem s96_ok : fnOk Go.Proofs.Try.prog Go.Proofs.Try.f96 ⟨20, [.t 4], b96⟩ = true := by kernel_rfl
def cmp_int (x1 : Int) (y2 : Int) : Int := (bif (isNaN_int x1) then (bif (isNaN_int y2) then 0 else (-1)) else (bif (isNaN_int y2) then 1 else (bif (decide (x1 < y2)) then (-1) else (bif (decide (y2 < x1)) then 1 else 0))))
theorem cmp_int_pc (x1 : Int) (y2 : Int) : PC Go.Proofs.Try.prog 96 [.i .i64 x1, .i .i64 y2] (.i .i64 (cmp_int x1 y2)) := by
  obtain ⟨r, hF⟩ : ∃ r, cmp_int x1 y2 = r := ⟨_, rfl⟩
  rw [hF]
  refine PC_z Go.Proofs.Try.func96 s96_ok (Nat.le_of_ble_eq_true rfl) fun hf => ?_
  unfold b96 start
  unfold cmp_int at hF
  try simp -dsimp only [go_sem]
  refine call_ok (isNaN_int_pc x1 ) (by simp -dsimp only [go_sem]) ?_
  try simp -dsimp only [go_sem]
  refine call_ok (isNaN_int_pc y2 ) (by simp -dsimp only [go_sem]) ?_
  try simp -dsimp only [go_sem]
  refine zif_of (fun h1 => ?_) (fun h1 => ?_)
  · skip
    replace hF := cond_t h1 hF
    try simp -dsimp only [go_sem, h1]
    refine zif_of (fun h2 => ?_) (fun h2 => ?_)
    · skip
      replace hF := cond_t h2 hF
      subst hF
      simp -dsimp only [go_sem, h1, h2]
    · skip
      replace hF := cond_f h2 hF
      subst hF
      simp -dsimp only [go_sem, h1, h2]
  · skip
    replace hF := cond_f h1 hF
    try simp -dsimp only [go_sem, h1]
    refine zif_of (fun h3 => ?_) (fun h3 => ?_)
    · skip
      replace hF := cond_t h3 hF
      subst hF
      simp -dsimp only [go_sem, h1, h3]
    · skip
      replace hF := cond_f h3 hF
      try simp -dsimp only [go_sem, h1, h3]
      refine zif_of (fun h4 => ?_) (fun h4 => ?_)
      · skip
        replace hF := cond_t h4 hF
        subst hF
        simp -dsimp only [go_sem, h1, h3, h4]
      · skip
        replace hF := cond_f h4 hF
        try simp -dsimp only [go_sem, h1, h3, h4]
        refine zif_of (fun h5 => ?_) (fun h5 => ?_)
        · skip
          replace hF := cond_t h5 hF
          subst hF
          simp -dsimp only [go_sem, h1, h3, h4, h5]
        · skip
          replace hF := cond_f h5 hF
          subst hF
          simp -dsimp only [go_sem, h1, h3, h4, h5]
/-- cmp.Compare[uint8] -/
def b93 : SCode :=
  (.seq (.ops [.op (some 4) (.mv (.c (.i .i64 0)))])
  (.seq (.ops [.op (some 7) (.mv (.t 0)),
      .call (some 8) (.c (.fn (.func 113) [] [])) [(.t 7)],
      .op (some 5) (.mv (.t 8))])
  (.seq (.ops [.op (some 9) (.mv (.t 1)),
      .call (some 10) (.c (.fn (.func 113) [] [])) [(.t 9)],
      .op (some 6) (.mv (.t 10))])
  (.seq (.seq (.ops [.op (some 11) (.mv (.t 5))])
  (.cond (.t 11) (.seq (.seq (.ops [.op (some 12) (.mv (.t 6))])
    (.cond (.t 12) (.seq (.ops [.op (some 4) (.mv (.c (.i .i64 0)))])
      .ret)
      .skip))
    (.seq (.ops [.op (some 4) (.mv (.c (.i .i64 (-1))))])
    .ret))
    .skip))
  (.seq (.seq (.ops [.op (some 13) (.mv (.t 6))])
  (.cond (.t 13) (.seq (.ops [.op (some 4) (.mv (.c (.i .i64 1)))])
    .ret)
    .skip))
  (.seq (.seq (.ops [.op (some 14) (.mv (.t 0)),
      .op (some 15) (.mv (.t 1)),
      .op (some 16) (.bi .lss (.t 14) (.t 15))])
  (.cond (.t 16) (.seq (.ops [.op (some 4) (.mv (.c (.i .i64 (-1))))])
    .ret)
    .skip))
  (.seq (.seq (.ops [.op (some 17) (.mv (.t 0)),
      .op (some 18) (.mv (.t 1)),
      .op (some 19) (.bi .gtr (.t 17) (.t 18))])
  (.cond (.t 19) (.seq (.ops [.op (some 4) (.mv (.c (.i .i64 1)))])
    .ret)
    .skip))
  (.seq (.ops [.op (some 4) (.mv (.c (.i .i64 0)))])
  .ret))))))))
theorem s93_ok : fnOk Go.Proofs.Try.prog Go.Proofs.Try.f93 ⟨20, [.t 4], b93⟩ = true := by kernel_rfl
def cmp_u8 (x1 : Int) (y2 : Int) : Int := (bif (isNaN_u8 x1) then (bif (isNaN_u8 y2) then 0 else (-1)) else (bif (isNaN_u8 y2) then 1 else (bif (decide (x1 < y2)) then (-1) else (bif (decide (y2 < x1)) then 1 else 0))))
theorem cmp_u8_pc (x1 : Int) (y2 : Int) : PC Go.Proofs.Try.prog 93 [.i .u8 x1, .i .u8 y2] (.i .i64 (cmp_u8 x1 y2)) := by
  obtain ⟨r, hF⟩ : ∃ r, cmp_u8 x1 y2 = r := ⟨_, rfl⟩
  rw [hF]
  refine PC_z Go.Proofs.Try.func93 s93_ok (Nat.le_of_ble_eq_true rfl) fun hf => ?_
  unfold b93 start
  unfold cmp_u8 at hF
  try simp -dsimp only [go_sem]
  refine call_ok (isNaN_u8_pc x1 ) (by simp -dsimp only [go_sem]) ?_
  try simp -dsimp only [go_sem]
  refine call_ok (isNaN_u8_pc y2 ) (by simp -dsimp only [go_sem]) ?_
  try simp -dsimp only [go_sem]
  refine zif_of (fun h1 => ?_) (fun h1 => ?_)
  · skip
    replace hF := cond_t h1 hF
    try simp -dsimp only [go_sem, h1]
    refine zif_of (fun h2 => ?_) (fun h2 => ?_)
    · skip
      replace hF := cond_t h2 hF
      subst hF
      simp -dsimp only [go_sem, h1, h2]
    · skip
      replace hF := cond_f h2 hF
      subst hF
      simp -dsimp only [go_sem, h1, h2]
  · skip
    replace hF := cond_f h1 hF
    try simp -dsimp only [go_sem, h1]
    refine zif_of (fun h3 => ?_) (fun h3 => ?_)
    · skip
      replace hF := cond_t h3 hF
      subst hF
      simp -dsimp only [go_sem, h1, h3]
    · skip
      replace hF := cond_f h3 hF
      try simp -dsimp only [go_sem, h1, h3]
      refine zif_of (fun h4 => ?_) (fun h4 => ?_)
      · skip
        replace hF := cond_t h4 hF
        subst hF
        simp -dsimp only [go_sem, h1, h3, h4]
      · skip
        replace hF := cond_f h4 hF
        try simp -dsimp only [go_sem, h1, h3, h4]
        refine zif_of (fun h5 => ?_) (fun h5 => ?_)
        · skip
          replace hF := cond_t h5 hF
          subst hF
          simp -dsimp only [go_sem, h1, h3, h4, h5]
        · skip
          replace hF := cond_f h5 hF
          subst hF
          simp -dsimp only [go_sem, h1, h3, h4, h5]
/-- cmp.Or[int] -/
def b95 : SCode :=
  (.seq (.ops [.op (some 2) (.mv (.c (.i .i64 0)))])
  (.seq (.ops [.op (some 3) (.mv (.c (.i .i64 0)))])
  (.seq (.seq (.ops [.op (some 6) (.mv (.t 0)),
      .op (some 7) (.len (.t 6)),
      .op (some 8) (.mv (.c (.i .i64 0)))])
  (.block 0 (.loop (.seq (.ops [.op (some 9) (.bi .lss (.t 8) (.t 7))])
  (.seq (.cond (.t 9) .skip
    (.exit 0))
  (.seq (.block 1 (.seq (.ops [.op (some 10) (.ia 1 (.t 6) (.t 8)),
      .op (some 11) (.ld (.t 10) 1 false),
      .op (some 5) (.mv (.t 11))])
  (.seq (.ops [.op (some 12) (.mv (.t 5)),
      .op (some 13) (.mv (.t 3)),
      .op (some 14) (.bi .neq (.t 12) (.t 13))])
  (.cond (.t 14) (.seq (.ops [.op (some 15) (.mv (.t 5)),
        .op (some 2) (.mv (.t 15))])
    .ret)
    .skip))))
  (.ops [.op (some 16) (.bi .add (.t 8) (.c (.i .i64 1))),
      .op (some 8) (.mv (.t 16))])))))))
  (.seq (.ops [.op (some 17) (.mv (.t 3)),
      .op (some 2) (.mv (.t 17))])
  .ret))))
theorem s95_ok : fnOk Go.Proofs.Try.prog Go.Proofs.Try.f95 ⟨18, [.t 2], b95⟩ = true := by kernel_rfl
def cmp_Or.L1 (vals1 : (List Int)) : List Int → Nat → Int
  | [], x3 => 0
  | e4 :: rest, x3 => (bif (!decide (e4 = 0)) then e4 else ((cmp_Or.L1 vals1 rest) (x3 + 1)))
def cmp_Or (vals1 : (List Int)) : Int := (cmp_Or.L1 vals1 vals1 0)
theorem cmp_Or_pc (vals1 : (List Int)) : PC Go.Proofs.Try.prog 95 [.sl false 1 (List.map (cI .i64) vals1)] (.i .i64 (cmp_Or vals1)) := by
  obtain ⟨r, hF⟩ : ∃ r, cmp_Or vals1 = r := ⟨_, rfl⟩
  rw [hF]
  refine PC_z Go.Proofs.Try.func95 s95_ok (Nat.le_of_ble_eq_true rfl) fun hf => ?_
  unfold b95 start
  unfold cmp_Or at hF
  try simp -dsimp only [go_sem]
  refine zloop_of (fun m s => ∃ (rest1 : List Int) (x3 : Nat), List.drop x3 vals1 = rest1 ∧ List.length rest1 = m ∧ s = ⟨[(3, .i .i64 0), (6, .sl false 1 (List.map (cI .i64) vals1)), (7, .i .i64 (List.length vals1 : Int)), (8, .i .i64 (x3 : Int))], []⟩ ∧ cmp_Or.L1 vals1 rest1 x3 = r) (List.length vals1) ⟨_, (Wks.ok (by simp -dsimp only [go_sem])), vals1, 0, rfl, rfl, rfl, hF⟩ ?_
  clear hF
  rintro _ _ ⟨rest1, x3, hd1, rfl, rfl, hF⟩ hfit
  have h3 : List.length vals1 ≤ LIM := by
    have h := hfit.t 6; simp only [e_lk, Nat.reduceBEq, cond_true, cond_false, Fit, FitL, ty_eq, tm_eq, List.length_map] at h; omega
  cases rest1 with
  | nil =>
    have h1 := dn hd1
    unfold cmp_Or.L1 at hF
    subst hF
    simp -dsimp only [go_sem, h1]
  | cons e4 rest1 =>
    obtain ⟨h1, h2, hd1⟩ := dc hd1
    have h4 := wi h1 h3
    unfold cmp_Or.L1 at hF
    try simp -dsimp only [go_sem, h1, h2, h4]
    refine zif_of (fun h5 => ?_) (fun h5 => ?_)
    · skip
      replace hF := cond_t h5 hF
      subst hF
      simp -dsimp only [go_sem, h1, h2, h4, h5]
    · skip
      replace hF := cond_f h5 hF
      try simp -dsimp only [go_sem, h1, h2, h4, h5]
      exact ⟨List.length rest1, _, Nat.lt_succ_self _, (Wks.ok (by simp -dsimp only [go_sem, h1, h2, h4, h5])), rest1, x3 + 1, hd1, rfl, rfl, hF⟩
theorem isNaN_int_eq (x : Int) : isNaN_int x = false := by simp [isNaN_int]
theorem isNaN_u8_eq (x : Int) : isNaN_u8 x = false := by simp [isNaN_u8]
theorem cmp_int_eq (x y : Int) : cmp_int x y = cmpI x y := by
  simp [cmp_int, isNaN_int_eq, cmpI, Bool.cond_eq_ite]
theorem cmp_u8_eq (x y : Int) : cmp_u8 x y = cmpI x y := by
  simp [cmp_u8, isNaN_u8_eq, cmpI, Bool.cond_eq_ite]
def orL : List Int → Int
  | [] => 0
  | x :: l => if x ≠ 0 then x else orL l
theorem cmp_Or_eq (l : List Int) : cmp_Or l = orL l := by
  have : ∀ (vals r : List Int) (i : Nat), cmp_Or.L1 vals r i = orL r := by
    intro vals r
    induction r with
    | nil => intro i; simp [cmp_Or.L1, orL]
    | cons x l ih => intro i; simp only [cmp_Or.L1, orL, ih]; by_cases h : x = 0 <;> simp [h]
  exact this l l 0
/-- sequent/sequentref01.Compare -/
def b80 : SCode :=
  (.seq (.ops [.op (some 2) (.bx (.t 0)),
      .op (some 3) (.bx (.t 1)),
      .op (some 4) (.mv (.c (.i .i64 0)))])
  (.seq (.seq (.ops [.op (some 7) (.fa (.t 2) 0),
      .op (some 8) (.ld (.t 7) 1 false),
      .op (some 9) (.fa (.t 3) 0),
      .op (some 10) (.ld (.t 9) 1 false),
      .op (some 11) (.bib .neq (.t 8) (.t 10))])
  (.cond (.t 11) (.seq (.seq (.ops [.op (some 12) (.fa (.t 2) 0),
        .op (some 13) (.ld (.t 12) 1 false)])
    (.cond (.t 13) (.seq (.ops [.op (some 4) (.mv (.c (.i .i64 (-1))))])
      .ret)
      .skip))
    (.seq (.ops [.op (some 4) (.mv (.c (.i .i64 1)))])
    .ret))
    .skip))
  (.seq (.seq (.ops [.op (some 14) (.fa (.t 2) 1),
      .op (some 15) (.ld (.t 14) 1 false),
      .op (some 16) (.fa (.t 3) 1),
      .op (some 17) (.ld (.t 16) 1 false),
      .op (some 18) (.bi .neq (.t 15) (.t 17))])
  (.cond (.t 18) (.seq (.seq (.ops [.op (some 19) (.fa (.t 2) 1),
        .op (some 20) (.ld (.t 19) 1 false),
        .op (some 21) (.fa (.t 3) 1),
        .op (some 22) (.ld (.t 21) 1 false),
        .op (some 23) (.bi .lss (.t 20) (.t 22))])
    (.cond (.t 23) (.seq (.ops [.op (some 4) (.mv (.c (.i .i64 (-1))))])
      .ret)
      .skip))
    (.seq (.ops [.op (some 4) (.mv (.c (.i .i64 1)))])
    .ret))
    .skip))
  (.seq (.seq (.ops [.op (some 24) (.fa (.t 2) 2),
      .op (some 25) (.ld (.t 24) 1 false),
      .op (some 26) (.len (.t 25)),
      .op (some 27) (.fa (.t 3) 2),
      .op (some 28) (.ld (.t 27) 1 false),
      .op (some 29) (.len (.t 28)),
      .op (some 30) (.bi .neq (.t 26) (.t 29))])
  (.cond (.t 30) (.seq (.seq (.ops [.op (some 31) (.fa (.t 2) 2),
        .op (some 32) (.ld (.t 31) 1 false),
        .op (some 33) (.len (.t 32)),
        .op (some 34) (.fa (.t 3) 2),
        .op (some 35) (.ld (.t 34) 1 false),
        .op (some 36) (.len (.t 35)),
        .op (some 37) (.bi .lss (.t 33) (.t 36))])
    (.cond (.t 37) (.seq (.ops [.op (some 4) (.mv (.c (.i .i64 (-1))))])
      .ret)
      .skip))
    (.seq (.ops [.op (some 4) (.mv (.c (.i .i64 1)))])
    .ret))
    .skip))
  (.seq (.seq (.ops [.op (some 5) (.mv (.c (.i .i64 0)))])
  (.block 0 (.loop (.seq (.seq (.ops [.op (some 38) (.mv (.t 5)),
      .op (some 39) (.fa (.t 2) 2),
      .op (some 40) (.ld (.t 39) 1 false),
      .op (some 41) (.len (.t 40)),
      .op (some 42) (.bi .lss (.t 38) (.t 41))])
  (.cond (.t 42) .skip
    (.exit 0)))
  (.seq (.block 1 (.seq (.draw [.op (some 45) (.fa (.t 2) 2),
      .op (some 46) (.ldi (.t 45) 1 false),
      .op (some 47) (.mv (.t 5)),
      .op (some 48) (.ia 3 (.t 46) (.t 47)),
      .op (some 49) (.ld (.t 48) 3 true),
      .op (some 50) (.fa (.t 3) 2),
      .op (some 51) (.ldi (.t 50) 1 false),
      .op (some 52) (.mv (.t 5)),
      .op (some 53) (.ia 3 (.t 51) (.t 52)),
      .op (some 54) (.ld (.t 53) 3 true),
      .call (some 55) (.c (.fn (.func 80) [] [])) [(.t 49), (.t 54)],
      .op (some 6) (.mv (.t 55))])
  (.seq (.ops [.op (some 56) (.mv (.t 6)),
      .op (some 57) (.bi .neq (.t 56) (.c (.i .i64 0)))])
  (.cond (.t 57) (.seq (.ops [.op (some 58) (.mv (.t 6)),
        .op (some 4) (.mv (.t 58))])
    .ret)
    .skip))))
  (.ops [.op (some 43) (.mv (.t 5)),
      .op (some 44) (.bi .add (.t 43) (.c (.i .i64 1))),
      .op (some 5) (.mv (.t 44))]))))))
  (.seq (.ops [.op (some 4) (.mv (.c (.i .i64 0)))])
  .ret))))))
theorem s80_ok : fnOk Go.Proofs.Try.prog Go.Proofs.Try.f80 ⟨59, [.t 4], b80⟩ = true := by kernel_rfl
def ref01_Compare.L1 (self : Ty → Ty → Option (Int)) (a1 : Ty) (b2 : Ty) : List Ty → Nat → Option (Int)
  | [], i6 => some 0
  | e7 :: rest, i6 => (Option.bind (ixL b2.a (i6 : Int)) fun e8 => (Option.bind (self e7 e8) fun r9 => (bif (!decide (r9 = 0)) then some r9 else ((ref01_Compare.L1 self a1 b2 rest) (i6 + 1)))))
def ref01_Compare.body (self : Ty → Ty → Option (Int)) (a1 : Ty) (b2 : Ty) : Option (Int) := (bif (!(a1.v == b2.v)) then (bif a1.v then some (-1) else some 1) else (bif (!decide (a1.n = b2.n)) then (bif (blt a1.n b2.n) then some (-1) else some 1) else (bif (!decide ((List.length a1.a : Int) = (List.length b2.a : Int))) then (bif (decide ((List.length a1.a : Int) < (List.length b2.a : Int))) then some (-1) else some 1) else (ref01_Compare.L1 self a1 b2 a1.a 0))))
theorem ref01_Compare.body_pc (self : Ty → Ty → Option (Int)) (a1 : Ty) (b2 : Ty) (hself : ∀ a0 a1 r, self a0 a1 = some r → PC Go.Proofs.Try.prog 80 [.agg (tyC a0), .agg (tyC a1)] (.i .i64 r)) (r : Int) (hF : ref01_Compare.body self a1 b2 = some r) : PC Go.Proofs.Try.prog 80 [.agg (tyC a1), .agg (tyC b2)] (.i .i64 r) := by
  obtain ⟨z, hr⟩ : ∃ z, some r = some z := ⟨_, rfl⟩
  refine PC_z Go.Proofs.Try.func80 s80_ok (Nat.le_of_ble_eq_true rfl) fun hf => ?_
  unfold b80 start
  unfold ref01_Compare.body at hF
  try simp -dsimp only [go_sem]
  refine zif_of (fun h1 => ?_) (fun h1 => ?_)
  · skip
    replace hF := cond_t h1 hF
    try simp -dsimp only [go_sem, h1]
    refine zif_of (fun h2 => ?_) (fun h2 => ?_)
    · skip
      replace hF := cond_t h2 hF
      cases hF
      simp -dsimp only [go_sem, h1, h2]
    · skip
      replace hF := cond_f h2 hF
      cases hF
      simp -dsimp only [go_sem, h1, h2]
  · skip
    replace hF := cond_f h1 hF
    try simp -dsimp only [go_sem, h1]
    refine zif_of (fun h3 => ?_) (fun h3 => ?_)
    · skip
      replace hF := cond_t h3 hF
      try simp -dsimp only [go_sem, h1, h3]
      refine zif_of (fun h4 => ?_) (fun h4 => ?_)
      · skip
        replace hF := cond_t h4 hF
        cases hF
        simp -dsimp only [go_sem, h1, h3, h4]
      · skip
        replace hF := cond_f h4 hF
        cases hF
        simp -dsimp only [go_sem, h1, h3, h4]
    · skip
      replace hF := cond_f h3 hF
      try simp -dsimp only [go_sem, h1, h3]
      refine zif_of (fun h5 => ?_) (fun h5 => ?_)
      · skip
        replace hF := cond_t h5 hF
        try simp -dsimp only [go_sem, h1, h3, h5]
        refine zif_of (fun h6 => ?_) (fun h6 => ?_)
        · skip
          replace hF := cond_t h6 hF
          cases hF
          simp -dsimp only [go_sem, h1, h3, h5, h6]
        · skip
          replace hF := cond_f h6 hF
          cases hF
          simp -dsimp only [go_sem, h1, h3, h5, h6]
      · skip
        replace hF := cond_f h5 hF
        try simp -dsimp only [go_sem, h1, h3, h5]
        refine zloop_of (fun m s => ∃ (rest1 : List Ty) (i6 : Nat), List.drop i6 a1.a = rest1 ∧ List.length rest1 = m ∧ s = ⟨[(2, .ip (tyC a1)), (3, .ip (tyC b2)), (5, .i .i64 (i6 : Int))], []⟩ ∧ ref01_Compare.L1 self a1 b2 rest1 i6 = some r) (List.length a1.a) ⟨_, (Wks.ok (by simp -dsimp only [go_sem, h1, h3, h5])), a1.a, 0, rfl, rfl, rfl, hF⟩ ?_
        clear hF
        rintro _ _ ⟨rest1, i6, hd1, rfl, rfl, hF⟩ hfit
        have h9 : List.length a1.a ≤ LIM := by
          have h := hfit.t 2; simp only [e_lk, Nat.reduceBEq, cond_true, cond_false, Fit, FitL, ty_eq, tm_eq, List.length_map] at h; omega
        cases rest1 with
        | nil =>
          have h7 := dn hd1
          unfold ref01_Compare.L1 at hF
          cases hF
          simp -dsimp only [go_sem, h1, h3, h5, h7]
        | cons e7 rest1 =>
          obtain ⟨h7, h8, hd1⟩ := dc hd1
          have h10 := wi h7 h9
          unfold ref01_Compare.L1 at hF
          obtain ⟨e8, h11, hF⟩ := bind_of hF hr
          obtain ⟨h12, h11⟩ := ixL_of h11
          simp only [Int.toNat_natCast] at h11
          obtain ⟨r9, h13, hF⟩ := bind_of hF hr
          try simp -dsimp only [go_sem, h1, h3, h5, h7, h8, h10, h11]
          refine call_ok (hself e7 e8  _ h13) (by simp -dsimp only [go_sem, h1, h3, h5, h7, h8, h10, h11]) ?_
          try simp -dsimp only [go_sem, h1, h3, h5, h7, h8, h10, h11]
          refine zif_of (fun h14 => ?_) (fun h14 => ?_)
          · skip
            replace hF := cond_t h14 hF
            cases hF
            simp -dsimp only [go_sem, h1, h3, h5, h7, h8, h10, h11, h14]
          · skip
            replace hF := cond_f h14 hF
            try simp -dsimp only [go_sem, h1, h3, h5, h7, h8, h10, h11, h14]
            exact ⟨List.length rest1, _, Nat.lt_succ_self _, (Wks.ok (by simp -dsimp only [go_sem, h1, h3, h5, h7, h8, h10, h11, h14])), rest1, i6 + 1, hd1, rfl, rfl, hF⟩
def ref01_Compare.fu : Nat → Ty → Ty → Option (Int)
  | 0 => fun _ _ => none
  | n + 1 => ref01_Compare.body (ref01_Compare.fu n)
theorem ref01_Compare.fu_pc : ∀ (n : Nat) (a0 : Ty) (a1 : Ty) (r : Int), ref01_Compare.fu n a0 a1 = some r → PC Go.Proofs.Try.prog 80 [.agg (tyC a0), .agg (tyC a1)] (.i .i64 r)
  | 0, a0, a1, r, h => by cases h
  | n + 1, a0, a1, r, h => ref01_Compare.body_pc (ref01_Compare.fu n) a0 a1 (ref01_Compare.fu_pc n) r h
theorem ref01_Compare_ok (t u : Ty) : ref01_Compare.body (fun x y => og (x ∈ t.a) (cmpTy x y)) t u = some (cmpTy t u) := by
  have key : ∀ (rest : List Ty) (i : Nat), i + rest.length = u.a.length → (∀ x ∈ rest, x ∈ t.a) → ref01_Compare.L1 (fun x y => og (x ∈ t.a) (cmpTy x y)) t u rest i = some (lexL cmpTy rest (u.a.drop i)) := by
    intro rest
    induction rest with
    | nil => intro i _ _; simp [ref01_Compare.L1, lexL]
    | cons x l ih =>
      intro i hl hm
      obtain ⟨y, h1, h2⟩ := drop_get (l := u.a) (i := i) (by simp at hl; omega)
      simp only [ref01_Compare.L1, ixL_nat, h1, Option.bind_some, og_pos (hm x (List.mem_cons_self ..)), h2, lexL]
      rw [ih (i + 1) (by simp at hl; omega) (fun z hz => hm z (List.mem_cons_of_mem _ hz))]
      by_cases h : cmpTy x y = 0 <;> simp [h]
  unfold ref01_Compare.body
  rw [cmpTy_eq]
  by_cases h3 : t.a.length = u.a.length
  · rw [key t.a 0 (by omega) (fun _ h => h)]
    simp only [List.drop_zero, Bool.cond_eq_ite]
    grind
  · clear key
    generalize ref01_Compare.L1 _ t u t.a 0 = z
    simp only [Bool.cond_eq_ite]
    grind
theorem cmpTy_pc : ∀ t u : Ty, PC Go.Proofs.Try.prog 80 [.agg (tyC t), .agg (tyC u)] (.i .i64 (cmpTy t u)) :=
  Ty.ind fun t ih u => ref01_Compare.body_pc _ t u (fun x y r h => by obtain ⟨h1, rfl⟩ := og_of h; exact ih x h1 y) _ (ref01_Compare_ok t u)
/-- sequent/sequentref01.Same -/
def b53 : SCode :=
  (.seq (.ops [.op (some 2) (.bx (.t 0)),
      .op (some 3) (.bx (.t 1)),
      .op (some 4) (.mv (.c (.b false)))])
  (.seq (.ops [.op (some 5) (.ld (.t 2) 3 true),
      .op (some 6) (.ld (.t 3) 3 true),
      .call (some 7) (.c (.fn (.func 80) [] [])) [(.t 5), (.t 6)],
      .op (some 8) (.bi .eql (.t 7) (.c (.i .i64 0))),
      .op (some 4) (.mv (.t 8))])
  .ret))
theorem s53_ok : fnOk Go.Proofs.Try.prog Go.Proofs.Try.f53 ⟨9, [.t 4], b53⟩ = true := by kernel_rfl
def ref01_Same (a1 : Ty) (b2 : Ty) : Bool := (decide ((cmpTy a1 b2) = 0))
theorem ref01_Same_pc (a1 : Ty) (b2 : Ty) : PC Go.Proofs.Try.prog 53 [.agg (tyC a1), .agg (tyC b2)] (.b (ref01_Same a1 b2)) := by
  obtain ⟨r, hF⟩ : ∃ r, ref01_Same a1 b2 = r := ⟨_, rfl⟩
  rw [hF]
  refine PC_z Go.Proofs.Try.func53 s53_ok (Nat.le_of_ble_eq_true rfl) fun hf => ?_
  unfold b53 start
  unfold ref01_Same at hF
  try simp -dsimp only [go_sem]
  refine call_ok (cmpTy_pc a1 b2 ) (by simp -dsimp only [go_sem]) ?_
  subst hF
  simp -dsimp only [go_sem]
theorem strCmp0_pc (a b : ByteArray) : PC Go.Proofs.Try.prog 114 [.s a, .s b] (.i .i64 (cmpB a b)) := by
  refine ⟨Go.Proofs.enters_of Go.Proofs.Try.func114 (by kernel_rfl) rfl, fun I w vals hI hv => ?_⟩
  simp only [RVs, RV] at hv
  obtain ⟨v, r, rfl, ⟨rfl, -⟩, v', r', rfl, ⟨rfl, -⟩, rfl⟩ := hv
  refine (Go.Proofs.c114 a b w).mono ?_
  rintro e w' ⟨rfl, rfl⟩
  refine ⟨_, rfl, Below.refl _ _, ?_⟩
  simp only [RV, cmpB, true_and]
  rcases cmpL_rng a.data.toList b.data.toList with h | h | h <;> rw [h] <;> decide
/-- strings.Compare -/
def b94 : SCode :=
  (.seq (.ops [.op (some 4) (.mv (.c (.i .i64 0)))])
  (.seq (.ops [.op (some 5) (.mv (.t 0)),
      .op (some 6) (.mv (.t 1)),
      .call (some 7) (.c (.fn (.func 114) [] [])) [(.t 5), (.t 6)],
      .op (some 4) (.mv (.t 7))])
  .ret))
theorem s94_ok : fnOk Go.Proofs.Try.prog Go.Proofs.Try.f94 ⟨8, [.t 4], b94⟩ = true := by kernel_rfl
def strings_Compare (a1 : ByteArray) (b2 : ByteArray) : Int := (cmpB a1 b2)
theorem strings_Compare_pc (a1 : ByteArray) (b2 : ByteArray) : PC Go.Proofs.Try.prog 94 [.s a1, .s b2] (.i .i64 (strings_Compare a1 b2)) := by
  obtain ⟨r, hF⟩ : ∃ r, strings_Compare a1 b2 = r := ⟨_, rfl⟩
  rw [hF]
  refine PC_z Go.Proofs.Try.func94 s94_ok (Nat.le_of_ble_eq_true rfl) fun hf => ?_
  unfold b94 start
  unfold strings_Compare at hF
  try simp -dsimp only [go_sem]
  refine call_ok (strCmp0_pc a1 b2 ) (by simp -dsimp only [go_sem]) ?_
  subst hF
  simp -dsimp only [go_sem]
/-- slices.CompareFunc[[]sequent/api.Type,[]sequent/api.Type,sequent/api.Type,sequent/api.Type] -/
def b108 : SCode :=
  (.seq (.ops [.op (some 6) (.mv (.c (.i .i64 0)))])
  (.seq (.seq (.ops [.op (some 11) (.mv (.t 0)),
      .op (some 12) (.len (.t 11)),
      .op (some 13) (.mv (.c (.i .i64 0)))])
  (.block 0 (.loop (.seq (.ops [.op (some 14) (.bi .lss (.t 13) (.t 12))])
  (.seq (.cond (.t 14) .skip
    (.exit 0))
  (.seq (.block 1 (.seq (.ops [.op (some 15) (.mv (.t 13)),
      .op (some 16) (.ia 3 (.t 11) (.t 13)),
      .op (some 17) (.ld (.t 16) 3 true),
      .op (some 8) (.alm 24 zTy),
      .op (some 7) (.mv (.t 15)),
      .op none (.st (.t 8) 3 (.t 17))])
  (.seq (.seq (.ops [.op (some 18) (.mv (.t 7)),
      .op (some 19) (.mv (.t 1)),
      .op (some 20) (.len (.t 19)),
      .op (some 21) (.bi .geq (.t 18) (.t 20))])
  (.cond (.t 21) (.seq (.ops [.op (some 6) (.mv (.c (.i .i64 1)))])
    .ret)
    .skip))
  (.seq (.ops [.op (some 22) (.mv (.t 1)),
      .op (some 23) (.mv (.t 7)),
      .op (some 24) (.ia 3 (.t 22) (.t 23)),
      .op (some 25) (.ld (.t 24) 3 true),
      .op (some 9) (.alm 24 zTy),
      .op none (.st (.t 9) 3 (.t 25))])
  (.seq (.ops [.op (some 26) (.mv (.t 2)),
      .op (some 27) (.ld (.t 8) 3 true),
      .op (some 28) (.ld (.t 9) 3 true),
      .call (some 29) (.t 26) [(.t 27), (.t 28)],
      .op (some 10) (.mv (.t 29))])
  (.seq (.ops [.op (some 30) (.mv (.t 10)),
      .op (some 31) (.bi .neq (.t 30) (.c (.i .i64 0)))])
  (.cond (.t 31) (.seq (.ops [.op (some 32) (.mv (.t 10)),
        .op (some 6) (.mv (.t 32))])
    .ret)
    .skip)))))))
  (.ops [.op (some 33) (.bi .add (.t 13) (.c (.i .i64 1))),
      .op (some 13) (.mv (.t 33))])))))))
  (.seq (.seq (.ops [.op (some 34) (.mv (.t 0)),
      .op (some 35) (.len (.t 34)),
      .op (some 36) (.mv (.t 1)),
      .op (some 37) (.len (.t 36)),
      .op (some 38) (.bi .lss (.t 35) (.t 37))])
  (.cond (.t 38) (.seq (.ops [.op (some 6) (.mv (.c (.i .i64 (-1))))])
    .ret)
    .skip))
  (.seq (.ops [.op (some 6) (.mv (.c (.i .i64 0)))])
  .ret))))
theorem s108_ok : fnOk Go.Proofs.Try.prog Go.Proofs.Try.f108 ⟨39, [.t 6], b108⟩ = true := by kernel_rfl
def CompareFunc_ty.L1 (cmp3 : Ty → Ty → Option (Int)) (s11 : (List Ty)) (s22 : (List Ty)) : List Ty → Nat → Option (Int)
  | [], x7 => (bif (decide ((List.length s11 : Int) < (List.length s22 : Int))) then some (-1) else some 0)
  | e8 :: rest, x7 => (bif (decide ((List.length s22 : Int) ≤ (x7 : Int))) then some 1 else (Option.bind (ixL s22 (x7 : Int)) fun e9 => (Option.bind (cmp3 e8 e9) fun r10 => (bif (!decide (r10 = 0)) then some r10 else ((CompareFunc_ty.L1 cmp3 s11 s22 rest) (x7 + 1))))))
def CompareFunc_ty (cmp3 : Ty → Ty → Option (Int)) (s11 : (List Ty)) (s22 : (List Ty)) : Option (Int) := (CompareFunc_ty.L1 cmp3 s11 s22 s11 0)
theorem CompareFunc_ty_pc (cmp3 : Ty → Ty → Option (Int)) (s11 : (List Ty)) (s22 : (List Ty)) (gcmp3 : Nat) (firstcmp3 capscmp3 : List AV) (hphi_cmp3 : ∀ z0 z1 r, cmp3 z0 z1 = some r → PC Go.Proofs.Try.prog gcmp3 (firstcmp3 ++ [.agg (tyC z0), .agg (tyC z1)] ++ capscmp3) (.i .i64 r)) (hpu_cmp3 : pureL firstcmp3 = true ∧ pureL capscmp3 = true) (r : Int) (hF : CompareFunc_ty cmp3 s11 s22 = some r) : PC Go.Proofs.Try.prog 108 [.sl false 3 (List.map tyC s11), .sl false 3 (List.map tyC s22), .fn (.func gcmp3) firstcmp3 capscmp3] (.i .i64 r) := by
  obtain ⟨z, hr⟩ : ∃ z, some r = some z := ⟨_, rfl⟩
  refine PC_z Go.Proofs.Try.func108 s108_ok (Nat.le_of_ble_eq_true rfl) fun hf => ?_
  unfold b108 start
  unfold CompareFunc_ty at hF
  try simp -dsimp only [go_sem, hpu_cmp3]
  refine zloop_of (fun m s => ∃ (rest1 : List Ty) (x7 : Nat), List.drop x7 s11 = rest1 ∧ List.length rest1 = m ∧ s = ⟨[(0, .sl false 3 (List.map tyC s11)), (1, .sl false 3 (List.map tyC s22)), (2, .fn (.func gcmp3) firstcmp3 capscmp3), (11, .sl false 3 (List.map tyC s11)), (12, .i .i64 (List.length s11 : Int)), (13, .i .i64 (x7 : Int))], []⟩ ∧ CompareFunc_ty.L1 cmp3 s11 s22 rest1 x7 = some r) (List.length s11) ⟨_, (Wks.ok (by simp -dsimp only [go_sem, hpu_cmp3])), s11, 0, rfl, rfl, rfl, hF⟩ ?_
  clear hF
  rintro _ _ ⟨rest1, x7, hd1, rfl, rfl, hF⟩ hfit
  have h3 : List.length s11 ≤ LIM := by
    have h := hfit.t 0; simp only [e_lk, Nat.reduceBEq, cond_true, cond_false, Fit, FitL, ty_eq, tm_eq, List.length_map] at h; omega
  cases rest1 with
  | nil =>
    have h1 := dn hd1
    unfold CompareFunc_ty.L1 at hF
    try simp -dsimp only [go_sem, hpu_cmp3, h1]
    refine zif_of (fun h5 => ?_) (fun h5 => ?_)
    · skip
      replace hF := cond_t h5 hF
      cases hF
      simp -dsimp only [go_sem, hpu_cmp3, h1, h5]
    · skip
      replace hF := cond_f h5 hF
      cases hF
      simp -dsimp only [go_sem, hpu_cmp3, h1, h5]
  | cons e8 rest1 =>
    obtain ⟨h1, h2, hd1⟩ := dc hd1
    have h4 := wi h1 h3
    unfold CompareFunc_ty.L1 at hF
    try simp -dsimp only [go_sem, hpu_cmp3, h1, h2, h4]
    refine zif_of (fun h6 => ?_) (fun h6 => ?_)
    · skip
      replace hF := cond_t h6 hF
      cases hF
      simp -dsimp only [go_sem, hpu_cmp3, h1, h2, h4, h6]
    · skip
      replace hF := cond_f h6 hF
      obtain ⟨e9, h7, hF⟩ := bind_of hF hr
      obtain ⟨h8, h7⟩ := ixL_of h7
      simp only [Int.toNat_natCast] at h7
      obtain ⟨r10, h9, hF⟩ := bind_of hF hr
      try simp -dsimp only [go_sem, hpu_cmp3, h1, h2, h4, h6, h7]
      refine call_ok (hphi_cmp3 e8 e9 _ h9) (by simp -dsimp only [go_sem, hpu_cmp3, h1, h2, h4, h6, h7]) ?_
      try simp -dsimp only [go_sem, hpu_cmp3, h1, h2, h4, h6, h7]
      refine zif_of (fun h10 => ?_) (fun h10 => ?_)
      · skip
        replace hF := cond_t h10 hF
        cases hF
        simp -dsimp only [go_sem, hpu_cmp3, h1, h2, h4, h6, h7, h10]
      · skip
        replace hF := cond_f h10 hF
        try simp -dsimp only [go_sem, hpu_cmp3, h1, h2, h4, h6, h7, h10]
        exact ⟨List.length rest1, _, Nat.lt_succ_self _, (Wks.ok (by simp -dsimp only [go_sem, hpu_cmp3, h1, h2, h4, h6, h7, h10])), rest1, x7 + 1, hd1, rfl, rfl, hF⟩
/-- sequent/types.Compare -/
def b86 : SCode :=
  (.seq (.ops [.op (some 2) (.bx (.t 0)),
      .op (some 3) (.bx (.t 1)),
      .op (some 4) (.mv (.c (.i .i64 0)))])
  (.seq (.seq (.draw [.op (some 6) (.ldi (.t 2) 3 true),
      .call (some 7) (.c (.fn (.func 107) [] [])) [(.t 6)],
      .op (some 8) (.ldi (.t 3) 3 true),
      .call (some 9) (.c (.fn (.func 107) [] [])) [(.t 8)],
      .call (some 10) (.c (.fn (.func 96) [] [])) [(.t 7), (.t 9)],
      .op (some 11) (.fa (.t 2) 1),
      .op (some 12) (.ldi (.t 11) 1 false),
      .op (some 13) (.fa (.t 3) 1),
      .op (some 14) (.ldi (.t 13) 1 false),
      .call (some 15) (.c (.fn (.func 94) [] [])) [(.t 12), (.t 14)],
      .op (some 16) (.fa (.t 2) 2),
      .op (some 17) (.ldi (.t 16) 1 false),
      .op (some 18) (.len (.t 17)),
      .op (some 19) (.fa (.t 3) 2),
      .op (some 20) (.ldi (.t 19) 1 false),
      .op (some 21) (.len (.t 20)),
      .call (some 22) (.c (.fn (.func 96) [] [])) [(.t 18), (.t 21)],
      .op (some 23) (.bsl 1 [(.t 10), (.t 15), (.t 22)]),
      .call (some 24) (.c (.fn (.func 95) [] [])) [(.t 23)],
      .op (some 5) (.mv (.t 24))])
  (.seq (.ops [.op (some 25) (.mv (.t 5)),
      .op (some 26) (.bi .neq (.t 25) (.c (.i .i64 0)))])
  (.cond (.t 26) (.seq (.ops [.op (some 27) (.mv (.t 5)),
        .op (some 4) (.mv (.t 27))])
    .ret)
    .skip)))
  (.seq (.ops [.op (some 28) (.fa (.t 2) 2),
      .op (some 29) (.ld (.t 28) 1 false),
      .op (some 30) (.fa (.t 3) 2),
      .op (some 31) (.ld (.t 30) 1 false),
      .call (some 32) (.c (.fn (.func 108) [] [])) [(.t 29), (.t 31), (.c (.fn (.func 86) [] []))],
      .op (some 4) (.mv (.t 32))])
  .ret)))
theorem s86_ok : fnOk Go.Proofs.Try.prog Go.Proofs.Try.f86 ⟨33, [.t 4], b86⟩ = true := by kernel_rfl
def types_Compare.body (self : Ty → Ty → Option (Int)) (a1 : Ty) (b2 : Ty) : Option (Int) := (bif (!decide ((cmp_Or [(cmp_int (types_rank a1) (types_rank b2)), (strings_Compare a1.n b2.n), (cmp_int (List.length a1.a : Int) (List.length b2.a : Int))]) = 0)) then some (cmp_Or [(cmp_int (types_rank a1) (types_rank b2)), (strings_Compare a1.n b2.n), (cmp_int (List.length a1.a : Int) (List.length b2.a : Int))]) else (Option.bind (CompareFunc_ty self a1.a b2.a) fun r3 => some r3))
theorem types_Compare.body_pc (self : Ty → Ty → Option (Int)) (a1 : Ty) (b2 : Ty) (hself : ∀ a0 a1 r, self a0 a1 = some r → PC Go.Proofs.Try.prog 86 [.agg (tyC a0), .agg (tyC a1)] (.i .i64 r)) (r : Int) (hF : types_Compare.body self a1 b2 = some r) : PC Go.Proofs.Try.prog 86 [.agg (tyC a1), .agg (tyC b2)] (.i .i64 r) := by
  obtain ⟨z, hr⟩ : ∃ z, some r = some z := ⟨_, rfl⟩
  refine PC_z Go.Proofs.Try.func86 s86_ok (Nat.le_of_ble_eq_true rfl) fun hf => ?_
  unfold b86 start
  unfold types_Compare.body at hF
  try simp -dsimp only [go_sem]
  refine call_ok (types_rank_pc a1 ) (by simp -dsimp only [go_sem]) ?_
  try simp -dsimp only [go_sem]
  refine call_ok (types_rank_pc b2 ) (by simp -dsimp only [go_sem]) ?_
  try simp -dsimp only [go_sem]
  refine call_ok (cmp_int_pc (types_rank a1) (types_rank b2) ) (by simp -dsimp only [go_sem]) ?_
  try simp -dsimp only [go_sem]
  refine call_ok (strings_Compare_pc a1.n b2.n ) (by simp -dsimp only [go_sem]) ?_
  try simp -dsimp only [go_sem]
  refine call_ok (cmp_int_pc (List.length a1.a : Int) (List.length b2.a : Int) ) (by simp -dsimp only [go_sem]) ?_
  try simp -dsimp only [go_sem]
  refine call_ok (cmp_Or_pc [(cmp_int (types_rank a1) (types_rank b2)), (strings_Compare a1.n b2.n), (cmp_int (List.length a1.a : Int) (List.length b2.a : Int))] ) (by simp -dsimp only [go_sem]) ?_
  try simp -dsimp only [go_sem]
  refine zif_of (fun h1 => ?_) (fun h1 => ?_)
  · skip
    replace hF := cond_t h1 hF
    cases hF
    simp -dsimp only [go_sem, h1]
  · skip
    replace hF := cond_f h1 hF
    obtain ⟨r3, h2, hF⟩ := bind_of hF hr
    try simp -dsimp only [go_sem, h1]
    refine call_ok (CompareFunc_ty_pc self a1.a b2.a _ [] [] hself ⟨rfl, rfl⟩ _ h2) (by simp -dsimp only [go_sem, h1]) ?_
    cases hF
    simp -dsimp only [go_sem, h1]
def types_Compare.fu : Nat → Ty → Ty → Option (Int)
  | 0 => fun _ _ => none
  | n + 1 => types_Compare.body (types_Compare.fu n)
theorem types_Compare.fu_pc : ∀ (n : Nat) (a0 : Ty) (a1 : Ty) (r : Int), types_Compare.fu n a0 a1 = some r → PC Go.Proofs.Try.prog 86 [.agg (tyC a0), .agg (tyC a1)] (.i .i64 r)
  | 0, a0, a1, r, h => by cases h
  | n + 1, a0, a1, r, h => types_Compare.body_pc (types_Compare.fu n) a0 a1 (types_Compare.fu_pc n) r h
theorem CompareFunc_ty_ok {cmp : Ty → Ty → Option Int} {f : Ty → Ty → Int} (s1 s2 : List Ty) (hl : s1.length = s2.length) (hc : ∀ x ∈ s1, ∀ y, cmp x y = some (f x y)) : CompareFunc_ty cmp s1 s2 = some (lexL f s1 s2) := by
  have key : ∀ (rest : List Ty) (i : Nat), i + rest.length = s2.length → (∀ x ∈ rest, ∀ y, cmp x y = some (f x y)) → CompareFunc_ty.L1 cmp s1 s2 rest i = some (lexL f rest (s2.drop i)) := by
    intro rest
    induction rest with
    | nil => intro i _ _; simp [CompareFunc_ty.L1, lexL, hl]
    | cons x l ih =>
      intro i hl hm
      obtain ⟨y, h1, h2⟩ := drop_get (l := s2) (i := i) (by simp at hl; omega)
      have h3 : ¬ (s2.length : Int) ≤ i := by simp at hl; omega
      simp only [CompareFunc_ty.L1, ixL_nat, h1, Option.bind_some, hm x (List.mem_cons_self ..), h2, lexL]
      rw [ih (i + 1) (by simp at hl; omega) (fun z hz => hm z (List.mem_cons_of_mem _ hz))]
      by_cases h : f x y = 0 <;> simp [h, h3]
  unfold CompareFunc_ty
  rw [key s1 0 (by omega) hc]; rfl
theorem cmp3_ty (t u : Ty) : orL [cmpI (types_rank t) (types_rank u), cmpB t.n u.n, cmpI t.a.length u.a.length] = if t.v ≠ u.v then (if t.v = true then -1 else 1) else if t.n ≠ u.n then (if blt t.n u.n = true then -1 else 1) else
    if t.a.length ≠ u.a.length then (if t.a.length < u.a.length then -1 else 1) else 0 := by
  simp only [orL, cmpI, types_rank, cmpB_eq, Bool.cond_eq_ite]
  grind
theorem types_Compare_ok (t u : Ty) : types_Compare.body (fun x y => og (x ∈ t.a) (cmpTy x y)) t u = some (cmpTy t u) := by
  unfold types_Compare.body
  simp only [cmp_Or_eq, cmp_int_eq, strings_Compare, cmp3_ty]
  rw [cmpTy_eq]
  by_cases h3 : t.a.length = u.a.length
  · rw [CompareFunc_ty_ok (f := cmpTy) t.a u.a h3 (fun x hx y => og_pos hx)]
    simp only [Bool.cond_eq_ite, Option.bind_some]
    grind
  · generalize CompareFunc_ty _ t.a u.a = z
    simp only [Bool.cond_eq_ite]
    grind
theorem cmpTy_pc2 : ∀ t u : Ty, PC Go.Proofs.Try.prog 86 [.agg (tyC t), .agg (tyC u)] (.i .i64 (cmpTy t u)) :=
  Ty.ind fun t ih u => types_Compare.body_pc _ t u (fun x y r h => by obtain ⟨h1, rfl⟩ := og_of h; exact ih x h1 y) _ (types_Compare_ok t u)
/-- sequent/types.Same -/
def b51 : SCode :=
  (.seq (.ops [.op (some 2) (.bx (.t 0)),
      .op (some 3) (.bx (.t 1)),
      .op (some 4) (.mv (.c (.b false)))])
  (.seq (.ops [.op (some 5) (.ld (.t 2) 3 true),
      .op (some 6) (.ld (.t 3) 3 true),
      .call (some 7) (.c (.fn (.func 86) [] [])) [(.t 5), (.t 6)],
      .op (some 8) (.bi .eql (.t 7) (.c (.i .i64 0))),
      .op (some 4) (.mv (.t 8))])
  .ret))
theorem s51_ok : fnOk Go.Proofs.Try.prog Go.Proofs.Try.f51 ⟨9, [.t 4], b51⟩ = true := by kernel_rfl
def types_Same (a1 : Ty) (b2 : Ty) : Bool := (decide ((cmpTy a1 b2) = 0))
theorem types_Same_pc (a1 : Ty) (b2 : Ty) : PC Go.Proofs.Try.prog 51 [.agg (tyC a1), .agg (tyC b2)] (.b (types_Same a1 b2)) := by
  obtain ⟨r, hF⟩ : ∃ r, types_Same a1 b2 = r := ⟨_, rfl⟩
  rw [hF]
  refine PC_z Go.Proofs.Try.func51 s51_ok (Nat.le_of_ble_eq_true rfl) fun hf => ?_
  unfold b51 start
  unfold types_Same at hF
  try simp -dsimp only [go_sem]
  refine call_ok (cmpTy_pc2 a1 b2 ) (by simp -dsimp only [go_sem]) ?_
  subst hF
  simp -dsimp only [go_sem]

end
end Go.Ab.Q
