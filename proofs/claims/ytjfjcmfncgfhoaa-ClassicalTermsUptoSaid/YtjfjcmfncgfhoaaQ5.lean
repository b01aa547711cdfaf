/- A part of the proof: Q5. -/
import Derived.Test.YtjfjcmfncgfhoaaAbY
import Derived.Test.YtjfjcmfncgfhoaaProg
import Derived.KernelRfl
import Derived.Test.YtjfjcmfncgfhoaaQ1
import Derived.Test.YtjfjcmfncgfhoaaQ2
import Derived.Test.YtjfjcmfncgfhoaaQ3
import Derived.Test.YtjfjcmfncgfhoaaQ4
set_option linter.all false
set_option maxRecDepth 100000
set_option maxHeartbeats 4000000
set_option linter.unusedSimpArgs false
set_option linter.unusedVariables false
namespace Go.Ab.Q
open Go.RowKit
noncomputable section

noncomputable def fmI (t : Tm) (o : List Ty) : Option (Ty × Bool) := terms_formed.fu (dpT t) t o
theorem fmI_pc (t : Tm) (o : List Ty) (r : Ty × Bool) (h : fmI t o = some r) : PC Go.Proofs.Try.prog 106 [.agg (tmC t), .sl false 3 (List.map tyC o)] (.tup [.agg (tyC r.1), .b r.2]) := terms_formed.fu_pc _ t o r h
/-- sequent/terms.typed -/
def b83 : SCode :=
  (.seq (.ops [.op (some 1) (.bx (.t 0)),
      .op (some 2) (.alm 24 zTy),
      .op (some 3) (.mv (.c (.i .i64 0)))])
  (.seq (.seq (.ops [.op (some 6) (.ld (.t 1) 7 true),
      .call (some 7) (.c (.fn (.func 105) [] [])) [(.t 6)]])
  (.cond (.t 7) (.seq (.ops [.op (some 8) (.bld zTy []),
        .op none (.st (.t 2) 3 (.t 8)),
        .op (some 3) (.mv (.c (.i .i64 21)))])
    .ret)
    .skip))
  (.seq (.ops [.op (some 10) (.ld (.t 1) 7 true),
      .call (some 11) (.c (.fn (.func 106) [] [])) [(.t 10), (.c (.nils))],
      .op (some 9) (.mv (.t 11)),
      .op (some 12) (.ext (.t 9) 0),
      .op (some 13) (.ext (.t 9) 1),
      .op (some 4) (.alm 24 zTy),
      .op none (.st (.t 4) 3 (.t 12)),
      .op (some 5) (.mv (.t 13))])
  (.seq (.seq (.ops [.op (some 14) (.mv (.t 5)),
      .op (some 15) (.un .not (.t 14))])
  (.cond (.t 15) (.seq (.ops [.op (some 16) (.bld zTy []),
        .op none (.st (.t 2) 3 (.t 16)),
        .op (some 3) (.mv (.c (.i .i64 20)))])
    .ret)
    .skip))
  (.seq (.ops [.op (some 17) (.ld (.t 4) 3 true),
      .op none (.st (.t 2) 3 (.t 17)),
      .op (some 3) (.mv (.c (.i .i64 0)))])
  .ret)))))
theorem s83_ok : fnOk Go.Proofs.Try.prog Go.Proofs.Try.f83 ⟨18, [.c 2 3 true, .t 3], b83⟩ = true := by kernel_rfl
def terms_typed (t1 : Tm) : Option (Ty × Int) := (Option.bind (terms_great t1) fun r2 => (bif r2 then some ((Ty.mk false (⟨#[]⟩ : ByteArray) []), 21) else (Option.bind (fmI t1 []) fun r3 => (bif (!r3.2) then some ((Ty.mk false (⟨#[]⟩ : ByteArray) []), 20) else some (r3.1, 0)))))
theorem terms_typed_pc (t1 : Tm) (r : Ty × Int) (hF : terms_typed t1 = some r) : PC Go.Proofs.Try.prog 83 [.agg (tmC t1)] (.tup [.agg (tyC r.1), .i .i64 r.2]) := by
  obtain ⟨z, hr⟩ : ∃ z, some r = some z := ⟨_, rfl⟩
  refine PC_z Go.Proofs.Try.func83 s83_ok (Nat.le_of_ble_eq_true rfl) fun hf => ?_
  unfold b83 start
  unfold terms_typed at hF
  obtain ⟨r2, h1, hF⟩ := bind_of hF hr
  try simp -dsimp only [go_sem]
  refine call_ok (terms_great_pc t1  _ h1) (by simp -dsimp only [go_sem]) ?_
  try simp -dsimp only [go_sem]
  refine zif_of (fun h2 => ?_) (fun h2 => ?_)
  · skip
    replace hF := cond_t h2 hF
    cases hF
    simp -dsimp only [go_sem, h2]
  · skip
    replace hF := cond_f h2 hF
    obtain ⟨r3, h3, hF⟩ := bind_of hF hr
    try simp -dsimp only [go_sem, h2]
    refine call_ok (fmI_pc t1 []  _ h3) (by simp -dsimp only [go_sem, h2]) ?_
    try simp -dsimp only [go_sem, h2]
    refine zif_of (fun h4 => ?_) (fun h4 => ?_)
    · skip
      replace hF := cond_t h4 hF
      cases hF
      simp -dsimp only [go_sem, h2, h4]
    · skip
      replace hF := cond_f h4 hF
      cases hF
      simp -dsimp only [go_sem, h2, h4]
theorem dpT_small {t : Tm} (h : smallT t = true) : dpT t ≤ 300 := by simp only [smallT, Bool.and_eq_true, decide_eq_true_eq] at h; exact h.2
theorem terms_typed_eq (t : Tm) (hb : bkT t ≤ 2 ^ 35) : terms_typed t = some ((tyOf t).getD zeroY, chkT t) := by
  unfold terms_typed tyOf chkT
  rw [terms_great_eq t (by omega)]
  cases hs : smallT t
  · simp [zeroY]
  · have hd := dpT_small hs
    have k := fmRel_at (fm_ok (dpT t) t [] (Nat.le_refl _) (by simp only [bkL]; omega) (by simp; omega))
    simp only [List.reverse_nil] at k
    simp only [Option.bind_some, Bool.not_true, cond_false, fmI, if_true]
    rcases k with ⟨h1, u, h2⟩ | ⟨u, h1, h2⟩
    · rw [h1, h2]; simp [zeroY]
    · rw [h1, h2]; simp
/-- sequent/terms.Check -/
def b46 : SCode :=
  (.seq (.ops [.op (some 1) (.bx (.t 0)),
      .op (some 2) (.mv (.c (.i .i64 0)))])
  (.seq (.ops [.op (some 6) (.ld (.t 1) 7 true),
      .call (some 7) (.c (.fn (.func 83) [] [])) [(.t 6)],
      .op (some 5) (.mv (.t 7)),
      .op (some 8) (.ext (.t 5) 0),
      .op (some 9) (.ext (.t 5) 1),
      .op (some 3) (.alm 24 zTy),
      .op none (.st (.t 3) 3 (.t 8)),
      .op (some 4) (.mv (.t 9))])
  (.seq (.ops [.op (some 10) (.mv (.t 4)),
      .op (some 2) (.mv (.t 10))])
  .ret)))
theorem s46_ok : fnOk Go.Proofs.Try.prog Go.Proofs.Try.f46 ⟨11, [.t 2], b46⟩ = true := by kernel_rfl
def terms_Check (t1 : Tm) : Option (Int) := (Option.bind (terms_typed t1) fun r2 => some r2.2)
theorem terms_Check_pc (t1 : Tm) (r : Int) (hF : terms_Check t1 = some r) : PC Go.Proofs.Try.prog 46 [.agg (tmC t1)] (.i .i64 r) := by
  obtain ⟨z, hr⟩ : ∃ z, some r = some z := ⟨_, rfl⟩
  refine PC_z Go.Proofs.Try.func46 s46_ok (Nat.le_of_ble_eq_true rfl) fun hf => ?_
  unfold b46 start
  unfold terms_Check at hF
  obtain ⟨r2, h1, hF⟩ := bind_of hF hr
  try simp -dsimp only [go_sem]
  refine call_ok (terms_typed_pc t1  _ h1) (by simp -dsimp only [go_sem]) ?_
  cases hF
  simp -dsimp only [go_sem]
theorem terms_Check_eq (t : Tm) (hb : bkT t ≤ 2 ^ 35) : terms_Check t = some (chkT t) := by
  unfold terms_Check; rw [terms_typed_eq t hb]; rfl
/-- sequent/terms.TypeOf -/
def b49 : SCode :=
  (.seq (.ops [.op (some 1) (.bx (.t 0)),
      .op (some 2) (.alm 24 zTy),
      .op (some 3) (.mv (.c (.i .i64 0)))])
  (.seq (.ops [.op (some 7) (.ld (.t 1) 7 true),
      .call (some 8) (.c (.fn (.func 83) [] [])) [(.t 7)],
      .op (some 6) (.mv (.t 8)),
      .op (some 9) (.ext (.t 6) 0),
      .op (some 10) (.ext (.t 6) 1),
      .op (some 4) (.alm 24 zTy),
      .op none (.st (.t 4) 3 (.t 9)),
      .op (some 5) (.mv (.t 10))])
  (.seq (.ops [.op (some 11) (.ld (.t 4) 3 true),
      .call (some 12) (.c (.fn (.func 81) [] [])) [(.t 11)],
      .op (some 13) (.mv (.t 5)),
      .op none (.st (.t 2) 3 (.t 12)),
      .op (some 3) (.mv (.t 13))])
  .ret)))
theorem s49_ok : fnOk Go.Proofs.Try.prog Go.Proofs.Try.f49 ⟨14, [.c 2 3 true, .t 3], b49⟩ = true := by kernel_rfl
def terms_TypeOf (t1 : Tm) : Option (Ty × Int) := (Option.bind (terms_typed t1) fun r2 => some (r2.1, r2.2))
theorem terms_TypeOf_pc (t1 : Tm) (r : Ty × Int) (hF : terms_TypeOf t1 = some r) : PC Go.Proofs.Try.prog 49 [.agg (tmC t1)] (.tup [.agg (tyC r.1), .i .i64 r.2]) := by
  obtain ⟨z, hr⟩ : ∃ z, some r = some z := ⟨_, rfl⟩
  refine PC_z Go.Proofs.Try.func49 s49_ok (Nat.le_of_ble_eq_true rfl) fun hf => ?_
  unfold b49 start
  unfold terms_TypeOf at hF
  obtain ⟨r2, h1, hF⟩ := bind_of hF hr
  try simp -dsimp only [go_sem]
  refine call_ok (terms_typed_pc t1  _ h1) (by simp -dsimp only [go_sem]) ?_
  try simp -dsimp only [go_sem]
  refine call_ok (twinY_pc r2.1) (by simp -dsimp only [go_sem]) ?_
  cases hF
  simp -dsimp only [go_sem]
theorem terms_TypeOf_eq (t : Tm) (hb : bkT t ≤ 2 ^ 35) : terms_TypeOf t = some ((tyOf t).getD zeroY, chkT t) := by
  unfold terms_TypeOf; rw [terms_typed_eq t hb]; rfl
/-- A valid term of type bool. -/
def isForm (t : Tm) : Bool := match tyOf t with
  | some u => decide (cmpTy u boolY = 0)
  | none => false
theorem chk_ty (t : Tm) : chkT t = 0 ↔ (tyOf t).isSome = true := by
  unfold chkT tyOf
  cases smallT t
  · simp
  · cases h : fm t [] <;> simp
/-- sequent/prove.Formula -/
def b50 : SCode :=
  (.seq (.ops [.op (some 1) (.bx (.t 0)),
      .op (some 2) (.mv (.c (.b false)))])
  (.seq (.ops [.op (some 6) (.ld (.t 1) 7 true),
      .call (some 7) (.c (.fn (.func 49) [] [])) [(.t 6)],
      .op (some 5) (.mv (.t 7)),
      .op (some 8) (.ext (.t 5) 0),
      .op (some 9) (.ext (.t 5) 1),
      .op (some 3) (.alm 24 zTy),
      .op none (.st (.t 3) 3 (.t 8)),
      .op (some 4) (.mv (.t 9))])
  (cutS (.draw [.op (some 10) (.mv (.t 4)),
      .op (some 11) (.bi .eql (.t 10) (.c (.i .i64 0))),
      .op (some 12) (.mv (.t 11)),
      .gd 12 true (some 13) (.op (some 13) (.ld (.t 3) 3 true)),
      .gd 12 true (some 14) (.call (some 14) (.c (.fn (.func 45) [] [])) []),
      .gd 12 true (some 15) (.call (some 15) (.c (.fn (.func 51) [] [])) [(.t 13), (.t 14)]),
      .op (some 16) (.pk (.t 12) (.t 15) (.c (.b false))),
      .op (some 2) (.mv (.t 16))])
  .ret)))
theorem s50_ok : fnOk Go.Proofs.Try.prog Go.Proofs.Try.f50 ⟨17, [.t 2], b50⟩ = true := by kernel_rfl
def prove_Formula.J1 (x4 : Bool) : Option (Bool) := some x4
def prove_Formula (p1 : Tm) : Option (Bool) := (Option.bind (terms_TypeOf p1) fun r2 => (bif (decide (r2.2 = 0)) then (lt (prove_Bool) fun r3 => (prove_Formula.J1 (types_Same r2.1 r3))) else (prove_Formula.J1 false)))
theorem prove_Formula_pc (p1 : Tm) (r : Bool) (hF : prove_Formula p1 = some r) : PC Go.Proofs.Try.prog 50 [.agg (tmC p1)] (.b r) := by
  obtain ⟨z, hr⟩ : ∃ z, some r = some z := ⟨_, rfl⟩
  refine PC_z Go.Proofs.Try.func50 s50_ok (Nat.le_of_ble_eq_true rfl) fun hf => ?_
  unfold b50 start
  unfold prove_Formula at hF
  obtain ⟨r2, h1, hF⟩ := bind_of hF hr
  try simp -dsimp only [go_sem]
  refine call_ok (terms_TypeOf_pc p1  _ h1) (by simp -dsimp only [go_sem]) ?_
  try simp -dsimp only [go_sem]
  refine zcut_of (fun s => ∃ (x4 : Bool), s = ⟨[(2, .b x4)], []⟩ ∧ prove_Formula.J1 x4 = some r) ?_ ?_
  · skip
    try simp -dsimp only [go_sem]
    refine zif_of (fun h3 => ?_) (fun h3 => ?_)
    · skip
      replace hF := cond_t h3 hF
      obtain ⟨r3, h4, hF⟩ := lt_of hF
      try simp -dsimp only [go_sem, h3]
      have hp := (prove_Bool_pc  )
      rw [h4] at hp
      refine call_ok hp (by simp -dsimp only [go_sem, h3]) ?_
      clear hp
      try simp -dsimp only [go_sem, h3]
      refine call_ok (types_Same_pc r2.1 r3 ) (by simp -dsimp only [go_sem, h3]) ?_
      try simp -dsimp only [go_sem, h3]
      exact ⟨_, (Wks.ok (by simp -dsimp only [go_sem, h3])), (types_Same r2.1 r3), rfl, hF⟩
    · skip
      replace hF := cond_f h3 hF
      try simp -dsimp only [go_sem, h3]
      exact ⟨_, (Wks.ok (by simp -dsimp only [go_sem, h3])), false, rfl, hF⟩
  clear hF
  rintro _ ⟨x4, rfl, hF⟩ hfit
  unfold prove_Formula.J1 at hF
  cases hF
  simp -dsimp only [go_sem]
theorem prove_Formula_eq (t : Tm) (hb : bkT t ≤ 2 ^ 35) : prove_Formula t = some (isForm t) := by
  unfold prove_Formula prove_Formula.J1 isForm
  rw [terms_TypeOf_eq t hb]
  have h := chk_ty t
  simp only [Option.bind_some, prove_Bool_eq, types_Same, lt_eq]
  cases hy : tyOf t
  · rw [hy] at h
    have : ¬ chkT t = 0 := by simpa using h
    simp [this]
  · rw [hy] at h
    have : chkT t = 0 := by simpa using h
    simp [this]
/-- sequent/terms.Twin -/
def b52 : SCode :=
  (.seq (.ops [.op (some 1) (.bxm 27 (.t 0)),
      .op (some 2) (.alm 27 zTm)])
  (.seq (.ops [.op (some 6) (.fa (.t 1) 6),
      .op (some 7) (.ld (.t 6) 1 false),
      .op (some 3) (.mv (.t 7))])
  (.seq (.ops [.op (some 8) (.fa (.t 1) 2),
      .op (some 9) (.ld (.t 8) 3 true),
      .call (some 10) (.c (.fn (.func 81) [] [])) [(.t 9)],
      .op (some 11) (.fa (.t 1) 2),
      .op none (.st (.t 11) 3 (.t 10)),
      .op (some 12) (.fa (.t 1) 6),
      .op none (.st (.t 12) 1 (.c (.nils)))])
  (cutS (.seq (.ops [.op (some 13) (.mv (.t 3)),
      .op (some 14) (.len (.t 13)),
      .op (some 15) (.bi .gtr (.t 14) (.c (.i .i64 0)))])
  (.cond (.t 15) (.ops [.op (some 16) (.mv (.t 3)),
        .op (some 17) (.len (.t 16)),
        .op (some 18) (.mks 27 7 zTm (.t 17)),
        .op (some 19) (.fa (.t 1) 6),
        .op none (.st (.t 19) 1 (.t 18))])
    .skip))
  (.seq (.seq (.ops [.op (some 20) (.mv (.t 3)),
      .op (some 21) (.len (.t 20)),
      .op (some 22) (.mv (.c (.i .i64 0)))])
  (.block 0 (.loop (.seq (.ops [.op (some 23) (.bi .lss (.t 22) (.t 21))])
  (.seq (.cond (.t 23) .skip
    (.exit 0))
  (.seq (.block 1 (.seq (.ops [.op (some 24) (.mv (.t 22)),
      .op (some 25) (.ia 7 (.t 20) (.t 22)),
      .op (some 26) (.ld (.t 25) 7 true),
      .op (some 5) (.alm 27 zTm),
      .op (some 4) (.mv (.t 24)),
      .op none (.st (.t 5) 7 (.t 26))])
  (.draw [.op (some 27) (.fa (.t 1) 6),
      .op (some 28) (.ld (.t 27) 1 false),
      .op (some 29) (.mv (.t 4)),
      .op (some 30) (.ld (.t 5) 7 true),
      .call (some 31) (.c (.fn (.func 52) [] [])) [(.t 30)],
      .op (some 32) (.ia 7 (.t 28) (.t 29)),
      .op none (.st (.t 32) 7 (.t 31))])))
  (.ops [.op (some 33) (.bi .add (.t 22) (.c (.i .i64 1))),
      .op (some 22) (.mv (.t 33))])))))))
  (.seq (.ops [.op (some 34) (.ld (.t 1) 7 true),
      .op none (.st (.t 2) 7 (.t 34))])
  .ret))))))
theorem s52_ok : fnOk Go.Proofs.Try.prog Go.Proofs.Try.f52 ⟨35, [.c 2 7 true], b52⟩ = true := by kernel_rfl
def terms_Twin.L2 (self : Tm → Option (Tm)) (t1 : Tm) : List Tm → Nat → (List Tm) → Option (Tm)
  | [], x6, ls5 => some (Tm.mk t1.k t1.n t1.y t1.i ls5)
  | e7 :: rest, x6, ls5 => (Option.bind (self e7) fun r8 => (if 0 ≤ (x6 : Int) ∧ (x6 : Int) < List.length ls5 then ((terms_Twin.L2 self t1 rest) (x6 + 1) (List.set ls5 x6 r8)) else none))
def terms_Twin.J1 (self : Tm → Option (Tm)) (t1 : Tm) (ls2 : (List Tm)) : Option (Tm) := (terms_Twin.L2 self t1 t1.s 0 ls2)
def terms_Twin.body (self : Tm → Option (Tm)) (t1 : Tm) : Option (Tm) := (bif (decide (0 < (List.length t1.s : Int))) then (if (List.length t1.s) ≤ LIM then (terms_Twin.J1 self t1 (List.replicate (List.length t1.s) (Tm.mk 0 (⟨#[]⟩ : ByteArray) (Ty.mk false (⟨#[]⟩ : ByteArray) []) 0 []))) else none) else (terms_Twin.J1 self t1 []))
theorem terms_Twin.body_pc (self : Tm → Option (Tm)) (t1 : Tm) (hself : ∀ a0 r, self a0 = some r → PC Go.Proofs.Try.prog 52 [.agg (tmC a0)] (.agg (tmC r))) (r : Tm) (hF : terms_Twin.body self t1 = some r) : PC Go.Proofs.Try.prog 52 [.agg (tmC t1)] (.agg (tmC r)) := by
  obtain ⟨z, hr⟩ : ∃ z, some r = some z := ⟨_, rfl⟩
  refine PC_z Go.Proofs.Try.func52 s52_ok (Nat.le_of_ble_eq_true rfl) fun hf => ?_
  unfold b52 start
  unfold terms_Twin.body at hF
  try simp -dsimp only [go_sem]
  refine call_ok (twinY_pc t1.y) (by simp -dsimp only [go_sem]) ?_
  try simp -dsimp only [go_sem]
  refine zcut_of (fun s => ∃ (ls2 : (List Tm)), s = ⟨[(1, .ptr 0 0), (2, .ptr 1 0), (3, .sl false 7 (List.map tmC t1.s))], [.box 27 ([.i .u8 t1.k, .s t1.n, .b t1.y.v, .s t1.y.n, .sl false 3 (List.map tyC t1.y.a), .i .i64 t1.i, .row 2]), .box 27 ([.i .u8 0, .s (⟨#[]⟩ : ByteArray), .b false, .s (⟨#[]⟩ : ByteArray), .nils, .i .i64 0, .nils]), .row 27 7 (List.map tmC ls2)]⟩ ∧ terms_Twin.J1 self t1 ls2 = some r) ?_ ?_
  · skip
    try simp -dsimp only [go_sem]
    refine zif_of (fun h2 => ?_) (fun h2 => ?_)
    · skip
      replace hF := cond_t h2 hF
      obtain ⟨h3, hF⟩ := ite_of hF hr
      have h3t := eq_true h3
      try simp -dsimp only [go_sem, h2, h3t]
      exact ⟨_, (Wks.ok (by simp -dsimp only [go_sem, h2, h3t])), (List.replicate (List.length t1.s) (Tm.mk 0 (⟨#[]⟩ : ByteArray) (Ty.mk false (⟨#[]⟩ : ByteArray) []) 0 [])), rfl, hF⟩
    · skip
      replace hF := cond_f h2 hF
      try simp -dsimp only [go_sem, h2]
      exact ⟨_, (Wks.trans (b := ⟨[(1, .ptr 0 0), (2, .ptr 1 0), (3, .sl false 7 (List.map tmC t1.s))], [.box 27 [.i .u8 t1.k, .s t1.n, .b t1.y.v, .s t1.y.n, .sl false 3 (List.map tyC t1.y.a), .i .i64 t1.i, .nils], .box 27 [.i .u8 0, .s (⟨#[]⟩ : ByteArray), .b false, .s (⟨#[]⟩ : ByteArray), .nils, .i .i64 0, .nils]]⟩) (Wks.ok (by simp -dsimp only [go_sem, h2])) (Wks.trans (Wks.adoptB 0 _ _ 6 27 7 rfl (by simp -dsimp only [go_sem]) (by decide)) (Wks.ok (by simp -dsimp only [go_sem, h2])))), [], rfl, hF⟩
  clear hF
  rintro _ ⟨ls2, rfl, hF⟩ hfit
  unfold terms_Twin.J1 at hF
  try simp -dsimp only [go_sem]
  refine zloop_of (fun m s => ∃ (rest2 : List Tm) (x6 : Nat) (ls5 : (List Tm)), List.drop x6 t1.s = rest2 ∧ List.length rest2 = m ∧ s = ⟨[(1, .ptr 0 0), (2, .ptr 1 0), (20, .sl false 7 (List.map tmC t1.s)), (21, .i .i64 (List.length t1.s : Int)), (22, .i .i64 (x6 : Int))], [.box 27 ([.i .u8 t1.k, .s t1.n, .b t1.y.v, .s t1.y.n, .sl false 3 (List.map tyC t1.y.a), .i .i64 t1.i, .row 2]), .box 27 ([.i .u8 0, .s (⟨#[]⟩ : ByteArray), .b false, .s (⟨#[]⟩ : ByteArray), .nils, .i .i64 0, .nils]), .row 27 7 (List.map tmC ls5)]⟩ ∧ terms_Twin.L2 self t1 rest2 x6 ls5 = some r) (List.length t1.s) ⟨_, (Wks.ok (by simp -dsimp only [go_sem])), t1.s, 0, ls2, rfl, rfl, rfl, hF⟩ ?_
  clear hF
  rintro _ _ ⟨rest2, x6, ls5, hd2, rfl, rfl, hF⟩ hfit
  have h6 : List.length t1.s ≤ LIM := by
    have h := hfit.t 20; simp only [e_lk, Nat.reduceBEq, cond_true, cond_false, Fit, FitL, ty_eq, tm_eq, List.length_map] at h; omega
  cases rest2 with
  | nil =>
    have h4 := dn hd2
    unfold terms_Twin.L2 at hF
    cases hF
    simp -dsimp only [go_sem, h4]
  | cons e7 rest2 =>
    obtain ⟨h4, h5, hd2⟩ := dc hd2
    have h7 := wi h4 h6
    unfold terms_Twin.L2 at hF
    obtain ⟨r8, h8, hF⟩ := bind_of hF hr
    try simp -dsimp only [go_sem, h4, h5, h7]
    refine call_ok (hself e7  _ h8) (by simp -dsimp only [go_sem, h4, h5, h7]) ?_
    obtain ⟨⟨h9, h10⟩, hF⟩ := ite_of hF hr
    obtain ⟨yh11, h11⟩ := get_some (show x6 < List.length ls5 by omega)
    have h9t := eq_true h9
    have h10t := eq_true h10
    try simp -dsimp only [go_sem, h4, h5, h7, h9t, h10t, h11]
    exact ⟨List.length rest2, _, Nat.lt_succ_self _, (Wks.ok (by simp -dsimp only [go_sem, h4, h5, h7, h9t, h10t, h11])), rest2, x6 + 1, (List.set ls5 x6 r8), hd2, rfl, rfl, hF⟩
def terms_Twin.fu : Nat → Tm → Option (Tm)
  | 0 => fun _ => none
  | n + 1 => terms_Twin.body (terms_Twin.fu n)
theorem terms_Twin.fu_pc : ∀ (n : Nat) (a0 : Tm) (r : Tm), terms_Twin.fu n a0 = some r → PC Go.Proofs.Try.prog 52 [.agg (tmC a0)] (.agg (tmC r))
  | 0, a0, r, h => by cases h
  | n + 1, a0, r, h => terms_Twin.body_pc (terms_Twin.fu n) a0 (terms_Twin.fu_pc n) r h
theorem terms_Twin_ok (t : Tm) (self : Tm → Option Tm) (hs : ∀ x ∈ t.s, self x = some x) (hl : t.s.length ≤ LIM) : terms_Twin.body self t = some t := by
  have key : ∀ (rest : List Tm) (i : Nat) (ls : List Tm), (∀ x ∈ rest, x ∈ t.s) → i + rest.length = ls.length → terms_Twin.L2 self t rest i ls = some (Tm.mk t.k t.n t.y t.i (ls.take i ++ rest)) := by
    intro rest
    induction rest with
    | nil => intro i ls _ h; simp at h; simp [terms_Twin.L2, h]
    | cons x l ih =>
      intro i ls hm h
      simp only [List.length_cons] at h
      have h2 : 0 ≤ (i : Int) ∧ (i : Int) < (ls.length : Int) := by omega
      simp only [terms_Twin.L2, hs x (hm x (List.mem_cons_self ..)), Option.bind_some]
      rw [if_pos h2, ih _ _ (fun z hz => hm z (List.mem_cons_of_mem _ hz)) (by simp; omega), take_set_succ (by omega)]
      simp
  unfold terms_Twin.body terms_Twin.J1
  by_cases h : 0 < t.s.length
  · have h' : 0 < (t.s.length : Int) := by omega
    rw [key _ _ _ (fun _ h => h) (by simp), decide_eq_true h', cond_true, if_pos hl]
    cases t; simp [Tm.k, Tm.n, Tm.y, Tm.i, Tm.s]
  · have h' : ¬ 0 < (t.s.length : Int) := by omega
    have e : t.s = [] := List.eq_nil_of_length_eq_zero (by omega)
    cases t; simp only [Tm.s] at e; subst e; simp [terms_Twin.L2, Tm.k, Tm.n, Tm.y, Tm.i, Tm.s]
theorem fit_lenT (t : Tm) (h : FitL [.agg (tmC t)]) : t.s.length ≤ LIM := by
  have := h.1
  simp only [Fit, tm_eq, FitL, List.length_map] at this
  exact this.2.2.2.2.2.2.1.1
theorem twinT_pc : ∀ t : Tm, PC Go.Proofs.Try.prog 52 [.agg (tmC t)] (.agg (tmC t)) :=
  Tm.ind fun t ih => by
    refine PC.of_fit (Ent_of Go.Proofs.Try.func52 s52_ok) fun hf => ?_
    refine terms_Twin.body_pc (fun x => og (x ∈ t.s) x) t (fun x r h => ?_) _ (terms_Twin_ok t _ (fun x h => og_pos h) (fit_lenT t hf))
    obtain ⟨h1, rfl⟩ := og_of h
    exact ih x h1
/-- sequent/sequentref02.Name -/
def b109 : SCode :=
  (.seq (.ops [.op (some 2) (.mv (.c (.b false)))])
  (cutS (.ops [.op (some 3) (.mv (.t 0)),
      .call (some 4) (.c (.fn (.func 126) [] [])) [(.t 3)],
      .op (some 5) (.mv (.t 4)),
      .gd 5 true (some 6) (.op (some 6) (.mv (.t 0))),
      .gd 5 true (some 7) (.op (some 7) (.ix (.t 6) (.c (.i .i64 0)))),
      .gd 5 true (some 8) (.op (some 8) (.bi .neq (.t 7) (.c (.i .u8 39)))),
      .op (some 9) (.pk (.t 5) (.t 8) (.c (.b false))),
      .op (some 2) (.mv (.t 9))])
  .ret))
theorem s109_ok : fnOk Go.Proofs.Try.prog Go.Proofs.Try.f109 ⟨10, [.t 2], b109⟩ = true := by kernel_rfl
def ref02_Name.J1 (x3 : Bool) : Option (Bool) := some x3
def ref02_Name (s1 : ByteArray) : Option (Bool) := (bif (ref01_Name s1) then (Option.bind (ixS s1 0) fun c2 => (ref02_Name.J1 (!decide (c2 = 39)))) else (ref02_Name.J1 false))
theorem ref02_Name_pc (s1 : ByteArray) (r : Bool) (hF : ref02_Name s1 = some r) : PC Go.Proofs.Try.prog 109 [.s s1] (.b r) := by
  obtain ⟨z, hr⟩ : ∃ z, some r = some z := ⟨_, rfl⟩
  refine PC_z Go.Proofs.Try.func109 s109_ok (Nat.le_of_ble_eq_true rfl) fun hf => ?_
  unfold b109 start
  unfold ref02_Name at hF
  try simp -dsimp only [go_sem]
  refine zcut_of (fun s => ∃ (x3 : Bool), s = ⟨[(2, .b x3)], []⟩ ∧ ref02_Name.J1 x3 = some r) ?_ ?_
  · skip
    try simp -dsimp only [go_sem]
    refine call_ok (ref01_Name_pc s1 ) (by simp -dsimp only [go_sem]) ?_
    try simp -dsimp only [go_sem]
    refine zif_of (fun h2 => ?_) (fun h2 => ?_)
    · skip
      replace hF := cond_t h2 hF
      obtain ⟨c2, h3, hF⟩ := bind_of hF hr
      obtain ⟨h4, c, h3, h5⟩ := ixS_of h3
      simp only [Int.reduceToNat] at h3
      try simp -dsimp only [go_sem, h2, h3, h5]
      exact ⟨_, (Wks.ok (by simp -dsimp only [go_sem, h2, h3, h5])), (!decide (c2 = 39)), rfl, hF⟩
    · skip
      replace hF := cond_f h2 hF
      try simp -dsimp only [go_sem, h2]
      exact ⟨_, (Wks.ok (by simp -dsimp only [go_sem, h2])), false, rfl, hF⟩
  clear hF
  rintro _ ⟨x3, rfl, hF⟩ hfit
  unfold ref02_Name.J1 at hF
  cases hF
  simp -dsimp only [go_sem]
theorem ref02_Name_eq (s : ByteArray) : ref02_Name s = some (nameT s) := by
  unfold ref02_Name ref02_Name.J1 nameT
  rw [ref01_Name_eq]
  cases h : nameB s
  · rfl
  · simp [name_ixS h]
/-- sequent/sequentref02.none -/
def b111 : SCode :=
  (.seq (.ops [.op (some 1) (.bx (.t 0)),
      .op (some 2) (.mv (.c (.b false)))])
  (cutS (.ops [.op (some 3) (.fa (.t 1) 0),
      .op (some 4) (.ld (.t 3) 1 false),
      .op (some 5) (.un .not (.t 4)),
      .op (some 6) (.mv (.t 5)),
      .gd 6 true (some 7) (.op (some 7) (.fa (.t 1) 1)),
      .gd 6 true (some 8) (.op (some 8) (.ld (.t 7) 1 false)),
      .gd 6 true (some 9) (.op (some 9) (.bi .eql (.t 8) (.c (.s { data := #[] })))),
      .op (some 10) (.pk (.t 6) (.t 9) (.c (.b false))),
      .op (some 11) (.mv (.t 10)),
      .gd 11 true (some 12) (.op (some 12) (.fa (.t 1) 2)),
      .gd 11 true (some 13) (.op (some 13) (.ld (.t 12) 1 false)),
      .gd 11 true (some 14) (.op (some 14) (.len (.t 13))),
      .gd 11 true (some 15) (.op (some 15) (.bi .eql (.t 14) (.c (.i .i64 0)))),
      .op (some 16) (.pk (.t 11) (.t 15) (.c (.b false))),
      .op (some 2) (.mv (.t 16))])
  .ret))
theorem s111_ok : fnOk Go.Proofs.Try.prog Go.Proofs.Try.f111 ⟨17, [.t 2], b111⟩ = true := by kernel_rfl
def ref02_none (t1 : Ty) : Bool := ((!t1.v) && ((decide (t1.n = (⟨#[]⟩ : ByteArray))) && (decide ((List.length t1.a : Int) = 0))))
theorem ref02_none_pc (t1 : Ty) : PC Go.Proofs.Try.prog 111 [.agg (tyC t1)] (.b (ref02_none t1)) := by
  obtain ⟨r, hF⟩ : ∃ r, ref02_none t1 = r := ⟨_, rfl⟩
  rw [hF]
  refine PC_z Go.Proofs.Try.func111 s111_ok (Nat.le_of_ble_eq_true rfl) fun hf => ?_
  unfold b111 start
  unfold ref02_none at hF
  try simp -dsimp only [go_sem]
  refine zcut_of (fun s => s = ⟨[(2, .b ((!t1.v) && ((decide (t1.n = (⟨#[]⟩ : ByteArray))) && (decide ((List.length t1.a : Int) = 0)))))], []⟩) ?_ ?_
  · skip
    try simp -dsimp only [go_sem]
    refine zif_of (fun h1 => ?_) (fun h1 => ?_)
    · skip
      try simp -dsimp only [go_sem, h1]
      refine zif_of (fun h2 => ?_) (fun h2 => ?_)
      · skip
        try simp -dsimp only [go_sem, h1, h2]
        exact ⟨_, (Wks.ok (by simp -dsimp only [go_sem, h1, h2])), rfl⟩
      · skip
        try simp -dsimp only [go_sem, h1, h2]
        exact ⟨_, (Wks.ok (by simp -dsimp only [go_sem, h1, h2])), rfl⟩
    · skip
      try simp -dsimp only [go_sem, h1]
      exact ⟨_, (Wks.ok (by simp -dsimp only [go_sem, h1])), rfl⟩
  rintro _ rfl hfit
  subst hF
  simp -dsimp only [go_sem]
theorem ref02_none_eq (t : Ty) : ref02_none t = noneY t := by
  have e : ((t.a.length : Int) = 0) ↔ t.a.length = 0 := by omega
  simp only [ref02_none, noneY, e]
/-- sequent/sequentref02.Formed -/
def b87 : SCode :=
  (.seq (.ops [.op (some 2) (.bx (.t 0)),
      .op (some 4) (.alm 24 zTy),
      .op (some 5) (.mv (.c (.b false)))])
  (.seq (.seq (.ops [.op (some 13) (.fa (.t 2) 0),
      .op (some 14) (.ld (.t 13) 1 false)])
  (.block 0 (cutS (.seq (.ops [.op (some 16) (.bi .eql (.t 14) (.c (.i .u8 1))),
      .op (some 15) (.mv (.t 16))])
  (.cond (.t 15) .skip
    (.ops [.op (some 17) (.bi .eql (.t 14) (.c (.i .u8 2))),
        .op (some 15) (.mv (.t 17))])))
  (.cond (.t 15) (cutS (.draw [.op (some 18) (.fa (.t 2) 2),
        .op (some 19) (.ldi (.t 18) 3 true),
        .op (some 20) (.fa (.t 2) 1),
        .op (some 21) (.ldi (.t 20) 1 false),
        .call (some 22) (.c (.fn (.func 109) [] [])) [(.t 21)],
        .op (some 23) (.mv (.t 22)),
        .gd 23 true (some 24) (.op (some 24) (.fa (.t 2) 2)),
        .gd 23 true (some 25) (.op (some 25) (.ldi (.t 24) 3 true)),
        .gd 23 true (some 26) (.call (some 26) (.c (.fn (.func 110) [] [])) [(.t 25)]),
        .op (some 27) (.pk (.t 23) (.t 26) (.c (.b false))),
        .op (some 28) (.mv (.t 27)),
        .gd 28 true (some 29) (.op (some 29) (.fa (.t 2) 5)),
        .gd 28 true (some 30) (.op (some 30) (.ldi (.t 29) 1 false)),
        .gd 28 true (some 31) (.op (some 31) (.bi .eql (.t 30) (.c (.i .i64 0)))),
        .op (some 32) (.pk (.t 28) (.t 31) (.c (.b false))),
        .op (some 33) (.mv (.t 32)),
        .gd 33 true (some 34) (.op (some 34) (.fa (.t 2) 6)),
        .gd 33 true (some 35) (.op (some 35) (.ldi (.t 34) 1 false)),
        .gd 33 true (some 36) (.op (some 36) (.len (.t 35))),
        .gd 33 true (some 37) (.op (some 37) (.bi .eql (.t 36) (.c (.i .i64 0)))),
        .op (some 38) (.pk (.t 33) (.t 37) (.c (.b false))),
        .op none (.st (.t 4) 3 (.t 19)),
        .op (some 5) (.mv (.t 38))])
    .ret)
    (.seq (.ops [.op (some 40) (.bi .eql (.t 14) (.c (.i .u8 3))),
        .op (some 39) (.mv (.t 40))])
    (.cond (.t 39) (.seq (cutS (.ops [.op (some 41) (.fa (.t 2) 1),
          .op (some 42) (.ld (.t 41) 1 false),
          .op (some 43) (.bi .neq (.t 42) (.c (.s { data := #[] }))),
          .op (some 44) (.mv (.t 43)),
          .gd 44 false (some 45) (.op (some 45) (.fa (.t 2) 2)),
          .gd 44 false (some 46) (.op (some 46) (.ld (.t 45) 3 true)),
          .gd 44 false (some 47) (.call (some 47) (.c (.fn (.func 111) [] [])) [(.t 46)]),
          .gd 44 false (some 48) (.op (some 48) (.un .not (.t 47))),
          .op (some 49) (.pk (.t 44) (.c (.b true)) (.t 48)),
          .op (some 50) (.mv (.t 49)),
          .gd 50 false (some 51) (.op (some 51) (.fa (.t 2) 6)),
          .gd 50 false (some 52) (.op (some 52) (.ld (.t 51) 1 false)),
          .gd 50 false (some 53) (.op (some 53) (.len (.t 52))),
          .gd 50 false (some 54) (.op (some 54) (.bi .neq (.t 53) (.c (.i .i64 0)))),
          .op (some 55) (.pk (.t 50) (.c (.b true)) (.t 54)),
          .op (some 56) (.mv (.t 55)),
          .gd 56 false (some 57) (.op (some 57) (.fa (.t 2) 5)),
          .gd 56 false (some 58) (.op (some 58) (.ld (.t 57) 1 false)),
          .gd 56 false (some 59) (.op (some 59) (.bi .lss (.t 58) (.c (.i .i64 0)))),
          .op (some 60) (.pk (.t 56) (.c (.b true)) (.t 59)),
          .op (some 61) (.mv (.t 60)),
          .gd 61 false (some 62) (.op (some 62) (.fa (.t 2) 5)),
          .gd 61 false (some 63) (.op (some 63) (.ld (.t 62) 1 false)),
          .gd 61 false (some 64) (.op (some 64) (.mv (.t 1))),
          .gd 61 false (some 65) (.op (some 65) (.len (.t 64))),
          .gd 61 false (some 66) (.op (some 66) (.bi .geq (.t 63) (.t 65))),
          .op (some 67) (.pk (.t 61) (.c (.b true)) (.t 66))])
      (.cond (.t 67) (.seq (.ops [.op (some 68) (.bld zTy []),
            .op none (.st (.t 4) 3 (.t 68)),
            .op (some 5) (.mv (.c (.b false)))])
        .ret)
        .skip))
      (.seq (.ops [.op (some 69) (.mv (.t 1)),
          .op (some 70) (.fa (.t 2) 5),
          .op (some 71) (.ld (.t 70) 1 false),
          .op (some 72) (.ia 3 (.t 69) (.t 71)),
          .op (some 73) (.ld (.t 72) 3 true),
          .op none (.st (.t 4) 3 (.t 73)),
          .op (some 5) (.mv (.c (.b true)))])
      .ret))
      (.seq (.ops [.op (some 75) (.bi .eql (.t 14) (.c (.i .u8 4))),
          .op (some 74) (.mv (.t 75))])
      (.cond (.t 74) (.seq (cutS (.ops [.op (some 76) (.fa (.t 2) 1),
            .op (some 77) (.ld (.t 76) 1 false),
            .op (some 78) (.bi .neq (.t 77) (.c (.s { data := #[] }))),
            .op (some 79) (.mv (.t 78)),
            .gd 79 false (some 80) (.op (some 80) (.fa (.t 2) 2)),
            .gd 79 false (some 81) (.op (some 81) (.ld (.t 80) 3 true)),
            .gd 79 false (some 82) (.call (some 82) (.c (.fn (.func 111) [] [])) [(.t 81)]),
            .gd 79 false (some 83) (.op (some 83) (.un .not (.t 82))),
            .op (some 84) (.pk (.t 79) (.c (.b true)) (.t 83)),
            .op (some 85) (.mv (.t 84)),
            .gd 85 false (some 86) (.op (some 86) (.fa (.t 2) 5)),
            .gd 85 false (some 87) (.op (some 87) (.ld (.t 86) 1 false)),
            .gd 85 false (some 88) (.op (some 88) (.bi .neq (.t 87) (.c (.i .i64 0)))),
            .op (some 89) (.pk (.t 85) (.c (.b true)) (.t 88)),
            .op (some 90) (.mv (.t 89)),
            .gd 90 false (some 91) (.op (some 91) (.fa (.t 2) 6)),
            .gd 90 false (some 92) (.op (some 92) (.ld (.t 91) 1 false)),
            .gd 90 false (some 93) (.op (some 93) (.len (.t 92))),
            .gd 90 false (some 94) (.op (some 94) (.bi .neq (.t 93) (.c (.i .i64 2)))),
            .op (some 95) (.pk (.t 90) (.c (.b true)) (.t 94))])
        (.cond (.t 95) (.seq (.ops [.op (some 96) (.bld zTy []),
              .op none (.st (.t 4) 3 (.t 96)),
              .op (some 5) (.mv (.c (.b false)))])
          .ret)
          .skip))
        (.seq (.ops [.op (some 98) (.fa (.t 2) 6),
            .op (some 99) (.ld (.t 98) 1 false),
            .op (some 100) (.ia 7 (.t 99) (.c (.i .i64 0))),
            .op (some 101) (.ld (.t 100) 7 true),
            .op (some 102) (.mv (.t 1)),
            .call (some 103) (.c (.fn (.func 87) [] [])) [(.t 101), (.t 102)],
            .op (some 97) (.mv (.t 103)),
            .op (some 104) (.ext (.t 97) 0),
            .op (some 105) (.ext (.t 97) 1),
            .op (some 6) (.alm 24 zTy),
            .op none (.st (.t 6) 3 (.t 104)),
            .op (some 7) (.mv (.t 105))])
        (.seq (.ops [.op (some 107) (.fa (.t 2) 6),
            .op (some 108) (.ld (.t 107) 1 false),
            .op (some 109) (.ia 7 (.t 108) (.c (.i .i64 1))),
            .op (some 110) (.ld (.t 109) 7 true),
            .op (some 111) (.mv (.t 1)),
            .call (some 112) (.c (.fn (.func 87) [] [])) [(.t 110), (.t 111)],
            .op (some 106) (.mv (.t 112)),
            .op (some 113) (.ext (.t 106) 0),
            .op (some 114) (.ext (.t 106) 1),
            .op (some 8) (.alm 24 zTy),
            .op none (.st (.t 8) 3 (.t 113)),
            .op (some 9) (.mv (.t 114))])
        (.seq (cutS (.draw [.op (some 115) (.mv (.t 7)),
            .op (some 116) (.un .not (.t 115)),
            .op (some 117) (.mv (.t 116)),
            .gd 117 false (some 118) (.op (some 118) (.mv (.t 9))),
            .gd 117 false (some 119) (.op (some 119) (.un .not (.t 118))),
            .op (some 120) (.pk (.t 117) (.c (.b true)) (.t 119)),
            .op (some 121) (.mv (.t 120)),
            .gd 121 false (some 122) (.op (some 122) (.fa (.t 6) 0)),
            .gd 121 false (some 123) (.op (some 123) (.ld (.t 122) 1 false)),
            .op (some 124) (.pk (.t 121) (.c (.b true)) (.t 123)),
            .op (some 125) (.mv (.t 124)),
            .gd 125 false (some 126) (.op (some 126) (.fa (.t 6) 1)),
            .gd 125 false (some 127) (.op (some 127) (.ld (.t 126) 1 false)),
            .gd 125 false (some 128) (.op (some 128) (.bi .neq (.t 127) (.c (.s { data := #[102, 117, 110] })))),
            .op (some 129) (.pk (.t 125) (.c (.b true)) (.t 128)),
            .op (some 130) (.mv (.t 129)),
            .gd 130 false (some 131) (.op (some 131) (.fa (.t 6) 2)),
            .gd 130 false (some 132) (.op (some 132) (.ld (.t 131) 1 false)),
            .gd 130 false (some 133) (.op (some 133) (.len (.t 132))),
            .gd 130 false (some 134) (.op (some 134) (.bi .neq (.t 133) (.c (.i .i64 2)))),
            .op (some 135) (.pk (.t 130) (.c (.b true)) (.t 134)),
            .op (some 136) (.mv (.t 135)),
            .gd 136 false (some 137) (.op (some 137) (.fa (.t 6) 2)),
            .gd 136 false (some 138) (.op (some 138) (.ld (.t 137) 1 false)),
            .gd 136 false (some 139) (.op (some 139) (.ia 3 (.t 138) (.c (.i .i64 0)))),
            .gd 136 false (some 140) (.op (some 140) (.ld (.t 139) 3 true)),
            .gd 136 false (some 141) (.op (some 141) (.ld (.t 8) 3 true)),
            .gd 136 false (some 142) (.call (some 142) (.c (.fn (.func 53) [] [])) [(.t 140), (.t 141)]),
            .gd 136 false (some 143) (.op (some 143) (.un .not (.t 142))),
            .op (some 144) (.pk (.t 136) (.c (.b true)) (.t 143))])
        (.cond (.t 144) (.seq (.ops [.op (some 145) (.bld zTy []),
              .op none (.st (.t 4) 3 (.t 145)),
              .op (some 5) (.mv (.c (.b false)))])
          .ret)
          .skip))
        (.seq (.ops [.op (some 146) (.fa (.t 6) 2),
            .op (some 147) (.ld (.t 146) 1 false),
            .op (some 148) (.ia 3 (.t 147) (.c (.i .i64 1))),
            .op (some 149) (.ld (.t 148) 3 true),
            .op none (.st (.t 4) 3 (.t 149)),
            .op (some 5) (.mv (.c (.b true)))])
        .ret)))))
        (.seq (.ops [.op (some 151) (.bi .eql (.t 14) (.c (.i .u8 5))),
            .op (some 150) (.mv (.t 151))])
        (.cond (.t 150) (.seq (cutS (.ops [.op (some 152) (.fa (.t 2) 1),
              .op (some 153) (.ld (.t 152) 1 false),
              .call (some 154) (.c (.fn (.func 109) [] [])) [(.t 153)],
              .op (some 155) (.un .not (.t 154)),
              .op (some 156) (.mv (.t 155)),
              .gd 156 false (some 157) (.op (some 157) (.fa (.t 2) 2)),
              .gd 156 false (some 158) (.op (some 158) (.ld (.t 157) 3 true)),
              .gd 156 false (some 159) (.call (some 159) (.c (.fn (.func 110) [] [])) [(.t 158)]),
              .gd 156 false (some 160) (.op (some 160) (.un .not (.t 159))),
              .op (some 161) (.pk (.t 156) (.c (.b true)) (.t 160)),
              .op (some 162) (.mv (.t 161)),
              .gd 162 false (some 163) (.op (some 163) (.fa (.t 2) 5)),
              .gd 162 false (some 164) (.op (some 164) (.ld (.t 163) 1 false)),
              .gd 162 false (some 165) (.op (some 165) (.bi .neq (.t 164) (.c (.i .i64 0)))),
              .op (some 166) (.pk (.t 162) (.c (.b true)) (.t 165)),
              .op (some 167) (.mv (.t 166)),
              .gd 167 false (some 168) (.op (some 168) (.fa (.t 2) 6)),
              .gd 167 false (some 169) (.op (some 169) (.ld (.t 168) 1 false)),
              .gd 167 false (some 170) (.op (some 170) (.len (.t 169))),
              .gd 167 false (some 171) (.op (some 171) (.bi .neq (.t 170) (.c (.i .i64 1)))),
              .op (some 172) (.pk (.t 167) (.c (.b true)) (.t 171))])
          (.cond (.t 172) (.seq (.ops [.op (some 173) (.bld zTy []),
                .op none (.st (.t 4) 3 (.t 173)),
                .op (some 5) (.mv (.c (.b false)))])
            .ret)
            .skip))
          (.seq (.draw [.op (some 175) (.fa (.t 2) 6),
              .op (some 176) (.ldi (.t 175) 1 false),
              .op (some 177) (.ia 7 (.t 176) (.c (.i .i64 0))),
              .op (some 178) (.ld (.t 177) 7 true),
              .op (some 179) (.fa (.t 2) 2),
              .op (some 180) (.ldi (.t 179) 3 true),
              .op (some 181) (.bsl 3 [(.t 180)]),
              .op (some 182) (.mv (.t 1)),
              .op (some 183) (.apt 24 3 (.t 181) (.t 182)),
              .call (some 184) (.c (.fn (.func 87) [] [])) [(.t 178), (.t 183)],
              .op (some 174) (.mv (.t 184)),
              .op (some 185) (.ext (.t 174) 0),
              .op (some 186) (.ext (.t 174) 1),
              .op (some 10) (.alm 24 zTy),
              .op none (.st (.t 10) 3 (.t 185)),
              .op (some 11) (.mv (.t 186))])
          (.seq (.ops [.op (some 187) (.fa (.t 2) 2),
              .op (some 188) (.ld (.t 187) 3 true),
              .op (some 189) (.ld (.t 10) 3 true),
              .call (some 190) (.c (.fn (.func 89) [] [])) [(.t 188), (.t 189)],
              .op (some 12) (.alm 24 zTy),
              .op none (.st (.t 12) 3 (.t 190))])
          (cutS (.draw [.op (some 191) (.ld (.t 12) 3 true),
              .op (some 192) (.mv (.t 11)),
              .op (some 193) (.mv (.t 192)),
              .gd 193 true (some 194) (.op (some 194) (.ld (.t 12) 3 true)),
              .gd 193 true (some 195) (.call (some 195) (.c (.fn (.func 110) [] [])) [(.t 194)]),
              .op (some 196) (.pk (.t 193) (.t 195) (.c (.b false))),
              .op none (.st (.t 4) 3 (.t 191)),
              .op (some 5) (.mv (.t 196))])
          .ret))))
          .skip))))))))))
  (.seq (.ops [.op (some 197) (.bld zTy []),
      .op none (.st (.t 4) 3 (.t 197)),
      .op (some 5) (.mv (.c (.b false)))])
  .ret)))
theorem s87_ok : fnOk Go.Proofs.Try.prog Go.Proofs.Try.f87 ⟨198, [.c 4 3 true, .t 5], b87⟩ = true := by kernel_rfl
def ref02_Formed.J2 (self : Tm → (List Ty) → Option (Ty × Bool)) (x5 : Bool) (x1 : Tm) : Option (Ty × Bool) := some (x1.y, x5)
def ref02_Formed.J5 (self : Tm → (List Ty) → Option (Ty × Bool)) (x12 : Bool) (r8 : (Ty × Bool)) (e7 : Tm) (e9 : Tm) : Option (Ty × Bool) := (bif x12 then some ((Ty.mk false (⟨#[]⟩ : ByteArray) []), false) else (Option.bind (ixL r8.1.a 1) fun e13 => some (e13, true)))
def ref02_Formed.J7 (self : Tm → (List Ty) → Option (Ty × Bool)) (x21 : Bool) (r19 : Ty) (e17 : Tm) : Option (Ty × Bool) := some (r19, x21)
def ref02_Formed.J6 (self : Tm → (List Ty) → Option (Ty × Bool)) (x2 : (List Ty)) (x1 : Tm) (x16 : Bool) : Option (Ty × Bool) := (bif x16 then some ((Ty.mk false (⟨#[]⟩ : ByteArray) []), false) else (Option.bind (ixL x1.s 0) fun e17 => (if 1 + List.length x2 ≤ LIM then (Option.bind (self e17 ([x1.y] ++ x2)) fun r18 => (lt (ref01_Fun x1.y r18.1) fun r19 => (bif r18.2 then (Option.bind (ref01_Valid r19) fun r20 => (ref02_Formed.J7 self r20 r19 e17)) else (ref02_Formed.J7 self false r19 e17)))) else none)))
def ref02_Formed.body (self : Tm → (List Ty) → Option (Ty × Bool)) (x1 : Tm) (x2 : (List Ty)) : Option (Ty × Bool) := (bif ((decide (x1.k = 1)) || (decide (x1.k = 2))) then (Option.bind (ref02_Name x1.n) fun r3 => (bif r3 then (Option.bind (ref01_Valid x1.y) fun r4 => (bif r4 then (bif (decide (x1.i = 0)) then (ref02_Formed.J2 self (decide ((List.length x1.s : Int) = 0)) x1) else (ref02_Formed.J2 self false x1)) else (ref02_Formed.J2 self false x1))) else (ref02_Formed.J2 self false x1))) else (bif (decide (x1.k = 3)) then (bif ((!decide (x1.n = (⟨#[]⟩ : ByteArray))) || ((!(ref02_none x1.y)) || ((!decide ((List.length x1.s : Int) = 0)) || ((decide (x1.i < 0)) || (decide ((List.length x2 : Int) ≤ x1.i)))))) then some ((Ty.mk false (⟨#[]⟩ : ByteArray) []), false) else (Option.bind (ixL x2 x1.i) fun e6 => some (e6, true))) else (bif (decide (x1.k = 4)) then (bif ((!decide (x1.n = (⟨#[]⟩ : ByteArray))) || ((!(ref02_none x1.y)) || ((!decide (x1.i = 0)) || (!decide ((List.length x1.s : Int) = 2))))) then some ((Ty.mk false (⟨#[]⟩ : ByteArray) []), false) else (Option.bind (ixL x1.s 0) fun e7 => (Option.bind (self e7 x2) fun r8 => (Option.bind (ixL x1.s 1) fun e9 => (Option.bind (self e9 x2) fun r10 => (bif (!r8.2) then (ref02_Formed.J5 self true r8 e7 e9) else (bif (!r10.2) then (ref02_Formed.J5 self true r8 e7 e9) else (bif r8.1.v then (ref02_Formed.J5 self true r8 e7 e9) else (bif (!decide (r8.1.n = (⟨#[102, 117, 110]⟩ : ByteArray))) then (ref02_Formed.J5 self true r8 e7 e9) else (bif (!decide ((List.length r8.1.a : Int) = 2)) then (ref02_Formed.J5 self true r8 e7 e9) else (Option.bind (ixL r8.1.a 0) fun e11 => (ref02_Formed.J5 self (!(ref01_Same e11 r10.1)) r8 e7 e9)))))))))))) else (bif (decide (x1.k = 5)) then (Option.bind (ref02_Name x1.n) fun r14 => (bif (!r14) then (ref02_Formed.J6 self x2 x1 true) else (Option.bind (ref01_Valid x1.y) fun r15 => (bif (!r15) then (ref02_Formed.J6 self x2 x1 true) else (bif (!decide (x1.i = 0)) then (ref02_Formed.J6 self x2 x1 true) else (ref02_Formed.J6 self x2 x1 (!decide ((List.length x1.s : Int) = 1)))))))) else some ((Ty.mk false (⟨#[]⟩ : ByteArray) []), false)))))
theorem ref02_Formed.body_pc (self : Tm → (List Ty) → Option (Ty × Bool)) (x1 : Tm) (x2 : (List Ty)) (hself : ∀ a0 a1 r, self a0 a1 = some r → PC Go.Proofs.Try.prog 87 [.agg (tmC a0), .sl false 3 (List.map tyC a1)] (.tup [.agg (tyC r.1), .b r.2])) (r : Ty × Bool) (hF : ref02_Formed.body self x1 x2 = some r) : PC Go.Proofs.Try.prog 87 [.agg (tmC x1), .sl false 3 (List.map tyC x2)] (.tup [.agg (tyC r.1), .b r.2]) := by
  obtain ⟨z, hr⟩ : ∃ z, some r = some z := ⟨_, rfl⟩
  refine PC_z Go.Proofs.Try.func87 s87_ok (Nat.le_of_ble_eq_true rfl) fun hf => ?_
  unfold b87 start
  unfold ref02_Formed.body at hF
  try simp -dsimp only [go_sem]
  refine zcut_of (fun s => s = ⟨[(1, .sl false 3 (List.map tyC x2)), (2, .ip (tmC x1)), (4, .ptr 0 0), (14, .i .u8 x1.k), (15, .b ((decide (x1.k = 1)) || (decide (x1.k = 2))))], [.box 24 ([.b false, .s (⟨#[]⟩ : ByteArray), .nils])]⟩) ?_ ?_
  · skip
    try simp -dsimp only [go_sem]
    refine zif_of (fun h1 => ?_) (fun h1 => ?_)
    · skip
      try simp -dsimp only [go_sem, h1]
      exact ⟨_, (Wks.ok (by simp -dsimp only [go_sem, h1])), rfl⟩
    · skip
      try simp -dsimp only [go_sem, h1]
      exact ⟨_, (Wks.ok (by simp -dsimp only [go_sem, h1])), rfl⟩
  rintro _ rfl hfit
  try simp -dsimp only [go_sem]
  refine zif_of (fun h2 => ?_) (fun h2 => ?_)
  · skip
    replace hF := cond_t h2 hF
    try simp -dsimp only [go_sem, h2]
    refine zcut_of (fun s => ∃ (x5 : Bool), s = ⟨[(4, .ptr 0 0), (5, .b x5)], [.box 24 (tyC x1.y)]⟩ ∧ ref02_Formed.J2 self x5 x1 = some r) ?_ ?_
    · skip
      obtain ⟨r3, h4, hF⟩ := bind_of hF hr
      try simp -dsimp only [go_sem, h2]
      refine call_ok (ref02_Name_pc x1.n  _ h4) (by simp -dsimp only [go_sem, h2]) ?_
      try simp -dsimp only [go_sem, h2]
      refine zif_of (fun h5 => ?_) (fun h5 => ?_)
      · skip
        replace hF := cond_t h5 hF
        obtain ⟨r4, h6, hF⟩ := bind_of hF hr
        try simp -dsimp only [go_sem, h2, h5]
        refine call_ok (ref01_Valid_pc x1.y  _ h6) (by simp -dsimp only [go_sem, h2, h5]) ?_
        try simp -dsimp only [go_sem, h2, h5]
        refine zif_of (fun h7 => ?_) (fun h7 => ?_)
        · skip
          replace hF := cond_t h7 hF
          try simp -dsimp only [go_sem, h2, h5, h7]
          refine zif_of (fun h8 => ?_) (fun h8 => ?_)
          · skip
            replace hF := cond_t h8 hF
            try simp -dsimp only [go_sem, h2, h5, h7, h8]
            exact ⟨_, (Wks.ok (by simp -dsimp only [go_sem, h2, h5, h7, h8])), (decide ((List.length x1.s : Int) = 0)), rfl, hF⟩
          · skip
            replace hF := cond_f h8 hF
            try simp -dsimp only [go_sem, h2, h5, h7, h8]
            exact ⟨_, (Wks.ok (by simp -dsimp only [go_sem, h2, h5, h7, h8])), false, rfl, hF⟩
        · skip
          replace hF := cond_f h7 hF
          try simp -dsimp only [go_sem, h2, h5, h7]
          exact ⟨_, (Wks.ok (by simp -dsimp only [go_sem, h2, h5, h7])), false, rfl, hF⟩
      · skip
        replace hF := cond_f h5 hF
        try simp -dsimp only [go_sem, h2, h5]
        exact ⟨_, (Wks.ok (by simp -dsimp only [go_sem, h2, h5])), false, rfl, hF⟩
    clear hF
    rintro _ ⟨x5, rfl, hF⟩ hfit
    unfold ref02_Formed.J2 at hF
    cases hF
    simp -dsimp only [go_sem, h2]
  · skip
    replace hF := cond_f h2 hF
    try simp -dsimp only [go_sem, h2]
    refine zif_of (fun h9 => ?_) (fun h9 => ?_)
    · skip
      replace hF := cond_t h9 hF
      try simp -dsimp only [go_sem, h2, h9]
      refine zcut_of (fun s => s = ⟨[(1, .sl false 3 (List.map tyC x2)), (2, .ip (tmC x1)), (4, .ptr 0 0), (67, .b ((!decide (x1.n = (⟨#[]⟩ : ByteArray))) || ((!(ref02_none x1.y)) || ((!decide ((List.length x1.s : Int) = 0)) || ((decide (x1.i < 0)) || (decide ((List.length x2 : Int) ≤ x1.i)))))))], [.box 24 ([.b false, .s (⟨#[]⟩ : ByteArray), .nils])]⟩) ?_ ?_
      · skip
        try simp -dsimp only [go_sem, h2, h9]
        refine zif_of (fun h10 => ?_) (fun h10 => ?_)
        · skip
          try simp -dsimp only [go_sem, h2, h9, h10]
          exact ⟨_, (Wks.ok (by simp -dsimp only [go_sem, h2, h9, h10])), rfl⟩
        · skip
          try simp -dsimp only [go_sem, h2, h9, h10]
          refine call_ok (ref02_none_pc x1.y ) (by simp -dsimp only [go_sem, h2, h9, h10]) ?_
          try simp -dsimp only [go_sem, h2, h9, h10]
          refine zif_of (fun h11 => ?_) (fun h11 => ?_)
          · skip
            try simp -dsimp only [go_sem, h2, h9, h10, h11]
            exact ⟨_, (Wks.ok (by simp -dsimp only [go_sem, h2, h9, h10, h11])), rfl⟩
          · skip
            try simp -dsimp only [go_sem, h2, h9, h10, h11]
            refine zif_of (fun h12 => ?_) (fun h12 => ?_)
            · skip
              try simp -dsimp only [go_sem, h2, h9, h10, h11, h12]
              exact ⟨_, (Wks.ok (by simp -dsimp only [go_sem, h2, h9, h10, h11, h12])), rfl⟩
            · skip
              try simp -dsimp only [go_sem, h2, h9, h10, h11, h12]
              refine zif_of (fun h13 => ?_) (fun h13 => ?_)
              · skip
                try simp -dsimp only [go_sem, h2, h9, h10, h11, h12, h13]
                exact ⟨_, (Wks.ok (by simp -dsimp only [go_sem, h2, h9, h10, h11, h12, h13])), rfl⟩
              · skip
                try simp -dsimp only [go_sem, h2, h9, h10, h11, h12, h13]
                exact ⟨_, (Wks.ok (by simp -dsimp only [go_sem, h2, h9, h10, h11, h12, h13])), rfl⟩
      rintro _ rfl hfit
      try simp -dsimp only [go_sem, h2, h9]
      refine zif_of (fun h14 => ?_) (fun h14 => ?_)
      · skip
        replace hF := cond_t h14 hF
        cases hF
        simp -dsimp only [go_sem, h2, h9, h14]
      · skip
        replace hF := cond_f h14 hF
        obtain ⟨e6, h15, hF⟩ := bind_of hF hr
        obtain ⟨h16, h15⟩ := ixL_of h15
        cases hF
        simp -dsimp only [go_sem, h2, h9, h14, h16, h15]
    · skip
      replace hF := cond_f h9 hF
      try simp -dsimp only [go_sem, h2, h9]
      refine zif_of (fun h17 => ?_) (fun h17 => ?_)
      · skip
        replace hF := cond_t h17 hF
        try simp -dsimp only [go_sem, h2, h9, h17]
        refine zcut_of (fun s => s = ⟨[(1, .sl false 3 (List.map tyC x2)), (2, .ip (tmC x1)), (4, .ptr 0 0), (95, .b ((!decide (x1.n = (⟨#[]⟩ : ByteArray))) || ((!(ref02_none x1.y)) || ((!decide (x1.i = 0)) || (!decide ((List.length x1.s : Int) = 2))))))], [.box 24 ([.b false, .s (⟨#[]⟩ : ByteArray), .nils])]⟩) ?_ ?_
        · skip
          try simp -dsimp only [go_sem, h2, h9, h17]
          refine zif_of (fun h18 => ?_) (fun h18 => ?_)
          · skip
            try simp -dsimp only [go_sem, h2, h9, h17, h18]
            exact ⟨_, (Wks.ok (by simp -dsimp only [go_sem, h2, h9, h17, h18])), rfl⟩
          · skip
            try simp -dsimp only [go_sem, h2, h9, h17, h18]
            refine call_ok (ref02_none_pc x1.y ) (by simp -dsimp only [go_sem, h2, h9, h17, h18]) ?_
            try simp -dsimp only [go_sem, h2, h9, h17, h18]
            refine zif_of (fun h19 => ?_) (fun h19 => ?_)
            · skip
              try simp -dsimp only [go_sem, h2, h9, h17, h18, h19]
              exact ⟨_, (Wks.ok (by simp -dsimp only [go_sem, h2, h9, h17, h18, h19])), rfl⟩
            · skip
              try simp -dsimp only [go_sem, h2, h9, h17, h18, h19]
              refine zif_of (fun h20 => ?_) (fun h20 => ?_)
              · skip
                try simp -dsimp only [go_sem, h2, h9, h17, h18, h19, h20]
                exact ⟨_, (Wks.ok (by simp -dsimp only [go_sem, h2, h9, h17, h18, h19, h20])), rfl⟩
              · skip
                try simp -dsimp only [go_sem, h2, h9, h17, h18, h19, h20]
                exact ⟨_, (Wks.ok (by simp -dsimp only [go_sem, h2, h9, h17, h18, h19, h20])), rfl⟩
        rintro _ rfl hfit
        try simp -dsimp only [go_sem, h2, h9, h17]
        refine zif_of (fun h21 => ?_) (fun h21 => ?_)
        · skip
          replace hF := cond_t h21 hF
          cases hF
          simp -dsimp only [go_sem, h2, h9, h17, h21]
        · skip
          replace hF := cond_f h21 hF
          obtain ⟨e7, h22, hF⟩ := bind_of hF hr
          obtain ⟨h23, h22⟩ := ixL_of h22
          simp only [Int.reduceToNat] at h22
          obtain ⟨r8, h24, hF⟩ := bind_of hF hr
          try simp -dsimp only [go_sem, h2, h9, h17, h21, h22]
          refine call_ok (hself e7 x2  _ h24) (by simp -dsimp only [go_sem, h2, h9, h17, h21, h22]) ?_
          obtain ⟨e9, h25, hF⟩ := bind_of hF hr
          obtain ⟨h26, h25⟩ := ixL_of h25
          simp only [Int.reduceToNat] at h25
          obtain ⟨r10, h27, hF⟩ := bind_of hF hr
          try simp -dsimp only [go_sem, h2, h9, h17, h21, h22, h25]
          refine call_ok (hself e9 x2  _ h27) (by simp -dsimp only [go_sem, h2, h9, h17, h21, h22, h25]) ?_
          try simp -dsimp only [go_sem, h2, h9, h17, h21, h22, h25]
          refine zcut_of (fun s => ∃ (x12 : Bool), s = ⟨[(4, .ptr 0 0), (6, .ptr 1 0), (144, .b x12)], [.box 24 ([.b false, .s (⟨#[]⟩ : ByteArray), .nils]), .box 24 (tyC r8.1)]⟩ ∧ ref02_Formed.J5 self x12 r8 e7 e9 = some r) ?_ ?_
          · skip
            try simp -dsimp only [go_sem, h2, h9, h17, h21, h22, h25]
            refine zif_of (fun h29 => ?_) (fun h29 => ?_)
            · skip
              replace hF := cond_t h29 hF
              try simp -dsimp only [go_sem, h2, h9, h17, h21, h22, h25, h29]
              exact ⟨_, (Wks.ok (by simp -dsimp only [go_sem, h2, h9, h17, h21, h22, h25, h29])), true, rfl, hF⟩
            · skip
              replace hF := cond_f h29 hF
              try simp -dsimp only [go_sem, h2, h9, h17, h21, h22, h25, h29]
              refine zif_of (fun h30 => ?_) (fun h30 => ?_)
              · skip
                replace hF := cond_t h30 hF
                try simp -dsimp only [go_sem, h2, h9, h17, h21, h22, h25, h29, h30]
                exact ⟨_, (Wks.ok (by simp -dsimp only [go_sem, h2, h9, h17, h21, h22, h25, h29, h30])), true, rfl, hF⟩
              · skip
                replace hF := cond_f h30 hF
                try simp -dsimp only [go_sem, h2, h9, h17, h21, h22, h25, h29, h30]
                refine zif_of (fun h31 => ?_) (fun h31 => ?_)
                · skip
                  replace hF := cond_t h31 hF
                  try simp -dsimp only [go_sem, h2, h9, h17, h21, h22, h25, h29, h30, h31]
                  exact ⟨_, (Wks.ok (by simp -dsimp only [go_sem, h2, h9, h17, h21, h22, h25, h29, h30, h31])), true, rfl, hF⟩
                · skip
                  replace hF := cond_f h31 hF
                  try simp -dsimp only [go_sem, h2, h9, h17, h21, h22, h25, h29, h30, h31]
                  refine zif_of (fun h32 => ?_) (fun h32 => ?_)
                  · skip
                    replace hF := cond_t h32 hF
                    try simp -dsimp only [go_sem, h2, h9, h17, h21, h22, h25, h29, h30, h31, h32]
                    exact ⟨_, (Wks.ok (by simp -dsimp only [go_sem, h2, h9, h17, h21, h22, h25, h29, h30, h31, h32])), true, rfl, hF⟩
                  · skip
                    replace hF := cond_f h32 hF
                    try simp -dsimp only [go_sem, h2, h9, h17, h21, h22, h25, h29, h30, h31, h32]
                    refine zif_of (fun h33 => ?_) (fun h33 => ?_)
                    · skip
                      replace hF := cond_t h33 hF
                      try simp -dsimp only [go_sem, h2, h9, h17, h21, h22, h25, h29, h30, h31, h32, h33]
                      exact ⟨_, (Wks.ok (by simp -dsimp only [go_sem, h2, h9, h17, h21, h22, h25, h29, h30, h31, h32, h33])), true, rfl, hF⟩
                    · skip
                      replace hF := cond_f h33 hF
                      obtain ⟨e11, h34, hF⟩ := bind_of hF hr
                      obtain ⟨h35, h34⟩ := ixL_of h34
                      simp only [Int.reduceToNat] at h34
                      try simp -dsimp only [go_sem, h2, h9, h17, h21, h22, h25, h29, h30, h31, h32, h33, h34]
                      refine call_ok (ref01_Same_pc e11 r10.1 ) (by simp -dsimp only [go_sem, h2, h9, h17, h21, h22, h25, h29, h30, h31, h32, h33, h34]) ?_
                      try simp -dsimp only [go_sem, h2, h9, h17, h21, h22, h25, h29, h30, h31, h32, h33, h34]
                      exact ⟨_, (Wks.ok (by simp -dsimp only [go_sem, h2, h9, h17, h21, h22, h25, h29, h30, h31, h32, h33, h34])), (!(ref01_Same e11 r10.1)), rfl, hF⟩
          clear hF
          rintro _ ⟨x12, rfl, hF⟩ hfit
          unfold ref02_Formed.J5 at hF
          try simp -dsimp only [go_sem, h2, h9, h17, h21, h22, h25]
          refine zif_of (fun h36 => ?_) (fun h36 => ?_)
          · skip
            replace hF := cond_t h36 hF
            cases hF
            simp -dsimp only [go_sem, h2, h9, h17, h21, h22, h25, h36]
          · skip
            replace hF := cond_f h36 hF
            obtain ⟨e13, h37, hF⟩ := bind_of hF hr
            obtain ⟨h38, h37⟩ := ixL_of h37
            simp only [Int.reduceToNat] at h37
            cases hF
            simp -dsimp only [go_sem, h2, h9, h17, h21, h22, h25, h36, h37]
      · skip
        replace hF := cond_f h17 hF
        try simp -dsimp only [go_sem, h2, h9, h17]
        refine zif_of (fun h39 => ?_) (fun h39 => ?_)
        · skip
          replace hF := cond_t h39 hF
          try simp -dsimp only [go_sem, h2, h9, h17, h39]
          refine zcut_of (fun s => ∃ (x16 : Bool), s = ⟨[(1, .sl false 3 (List.map tyC x2)), (2, .ip (tmC x1)), (4, .ptr 0 0), (172, .b x16)], [.box 24 ([.b false, .s (⟨#[]⟩ : ByteArray), .nils])]⟩ ∧ ref02_Formed.J6 self x2 x1 x16 = some r) ?_ ?_
          · skip
            obtain ⟨r14, h41, hF⟩ := bind_of hF hr
            try simp -dsimp only [go_sem, h2, h9, h17, h39]
            refine call_ok (ref02_Name_pc x1.n  _ h41) (by simp -dsimp only [go_sem, h2, h9, h17, h39]) ?_
            try simp -dsimp only [go_sem, h2, h9, h17, h39]
            refine zif_of (fun h42 => ?_) (fun h42 => ?_)
            · skip
              replace hF := cond_t h42 hF
              try simp -dsimp only [go_sem, h2, h9, h17, h39, h42]
              exact ⟨_, (Wks.ok (by simp -dsimp only [go_sem, h2, h9, h17, h39, h42])), true, rfl, hF⟩
            · skip
              replace hF := cond_f h42 hF
              obtain ⟨r15, h43, hF⟩ := bind_of hF hr
              try simp -dsimp only [go_sem, h2, h9, h17, h39, h42]
              refine call_ok (ref01_Valid_pc x1.y  _ h43) (by simp -dsimp only [go_sem, h2, h9, h17, h39, h42]) ?_
              try simp -dsimp only [go_sem, h2, h9, h17, h39, h42]
              refine zif_of (fun h44 => ?_) (fun h44 => ?_)
              · skip
                replace hF := cond_t h44 hF
                try simp -dsimp only [go_sem, h2, h9, h17, h39, h42, h44]
                exact ⟨_, (Wks.ok (by simp -dsimp only [go_sem, h2, h9, h17, h39, h42, h44])), true, rfl, hF⟩
              · skip
                replace hF := cond_f h44 hF
                try simp -dsimp only [go_sem, h2, h9, h17, h39, h42, h44]
                refine zif_of (fun h45 => ?_) (fun h45 => ?_)
                · skip
                  replace hF := cond_t h45 hF
                  try simp -dsimp only [go_sem, h2, h9, h17, h39, h42, h44, h45]
                  exact ⟨_, (Wks.ok (by simp -dsimp only [go_sem, h2, h9, h17, h39, h42, h44, h45])), true, rfl, hF⟩
                · skip
                  replace hF := cond_f h45 hF
                  try simp -dsimp only [go_sem, h2, h9, h17, h39, h42, h44, h45]
                  exact ⟨_, (Wks.ok (by simp -dsimp only [go_sem, h2, h9, h17, h39, h42, h44, h45])), (!decide ((List.length x1.s : Int) = 1)), rfl, hF⟩
          clear hF
          rintro _ ⟨x16, rfl, hF⟩ hfit
          unfold ref02_Formed.J6 at hF
          try simp -dsimp only [go_sem, h2, h9, h17, h39]
          refine zif_of (fun h46 => ?_) (fun h46 => ?_)
          · skip
            replace hF := cond_t h46 hF
            cases hF
            simp -dsimp only [go_sem, h2, h9, h17, h39, h46]
          · skip
            replace hF := cond_f h46 hF
            obtain ⟨e17, h47, hF⟩ := bind_of hF hr
            obtain ⟨h48, h47⟩ := ixL_of h47
            simp only [Int.reduceToNat] at h47
            obtain ⟨h49, hF⟩ := ite_of hF hr
            have h49t := eq_true h49
            obtain ⟨r18, h50, hF⟩ := bind_of hF hr
            try simp -dsimp only [go_sem, h2, h9, h17, h39, h46, h47, h49t]
            refine call_ok (hself e17 ([x1.y] ++ x2)  _ h50) (by simp -dsimp only [go_sem, h2, h9, h17, h39, h46, h47, h49t]) ?_
            obtain ⟨r19, h51, hF⟩ := lt_of hF
            try simp -dsimp only [go_sem, h2, h9, h17, h39, h46, h47, h49t]
            have hp := (ref01_Fun_pc x1.y r18.1 )
            rw [h51] at hp
            refine call_ok hp (by simp -dsimp only [go_sem, h2, h9, h17, h39, h46, h47, h49t]) ?_
            clear hp
            try simp -dsimp only [go_sem, h2, h9, h17, h39, h46, h47, h49t]
            refine zcut_of (fun s => ∃ (x21 : Bool), s = ⟨[(4, .ptr 0 0), (5, .b x21)], [.box 24 (tyC r19)]⟩ ∧ ref02_Formed.J7 self x21 r19 e17 = some r) ?_ ?_
            · skip
              try simp -dsimp only [go_sem, h2, h9, h17, h39, h46, h47, h49t]
              refine zif_of (fun h53 => ?_) (fun h53 => ?_)
              · skip
                replace hF := cond_t h53 hF
                obtain ⟨r20, h54, hF⟩ := bind_of hF hr
                try simp -dsimp only [go_sem, h2, h9, h17, h39, h46, h47, h49t, h53]
                refine call_ok (ref01_Valid_pc r19  _ h54) (by simp -dsimp only [go_sem, h2, h9, h17, h39, h46, h47, h49t, h53]) ?_
                try simp -dsimp only [go_sem, h2, h9, h17, h39, h46, h47, h49t, h53]
                exact ⟨_, (Wks.ok (by simp -dsimp only [go_sem, h2, h9, h17, h39, h46, h47, h49t, h53])), r20, rfl, hF⟩
              · skip
                replace hF := cond_f h53 hF
                try simp -dsimp only [go_sem, h2, h9, h17, h39, h46, h47, h49t, h53]
                exact ⟨_, (Wks.ok (by simp -dsimp only [go_sem, h2, h9, h17, h39, h46, h47, h49t, h53])), false, rfl, hF⟩
            clear hF
            rintro _ ⟨x21, rfl, hF⟩ hfit
            unfold ref02_Formed.J7 at hF
            cases hF
            simp -dsimp only [go_sem, h2, h9, h17, h39, h46, h47, h49t]
        · skip
          replace hF := cond_f h39 hF
          cases hF
          simp -dsimp only [go_sem, h2, h9, h17, h39]
def ref02_Formed.fu : Nat → Tm → (List Ty) → Option (Ty × Bool)
  | 0 => fun _ _ => none
  | n + 1 => ref02_Formed.body (ref02_Formed.fu n)
theorem ref02_Formed.fu_pc : ∀ (n : Nat) (a0 : Tm) (a1 : (List Ty)) (r : Ty × Bool), ref02_Formed.fu n a0 a1 = some r → PC Go.Proofs.Try.prog 87 [.agg (tmC a0), .sl false 3 (List.map tyC a1)] (.tup [.agg (tyC r.1), .b r.2])
  | 0, a0, a1, r, h => by cases h
  | n + 1, a0, a1, r, h => ref02_Formed.body_pc (ref02_Formed.fu n) a0 a1 (ref02_Formed.fu_pc n) r h
theorem fmr_ok : ∀ (n : Nat) (t : Tm) (o : List Ty), dpT t ≤ n → bkT t * 6 + bkL o ≤ 2 ^ 38 → o.length + dpT t ≤ 2 ^ 30 → fmRel (ref02_Formed.fu n t o) (fm t o)
  | 0, t, o, hn, _, _ => by have := dpT_eq t; omega
  | n + 1, t, o, hn, hb, hl => by
    have hbe := bkT_eq t
    have hde := dpT_eq t
    have hsub : ∀ x ∈ t.s, dpT x ≤ n := fun x hx => by have := dpT_sub hx; omega
    have hbY := bkY_eq t.y
    have ih : ∀ x ∈ t.s, fmRel (ref02_Formed.fu n x o) (fm x o) := fun x hx => by
      have := bkT_sub hx; have := dpT_sub hx
      exact fmr_ok n x o (hsub x hx) (by omega) (by omega)
    rw [fm_eq]
    show fmRel (ref02_Formed.body (ref02_Formed.fu n) t o) _
    unfold ref02_Formed.body ref02_Formed.J2 ref02_Formed.J5 ref02_Formed.J6 ref02_Formed.J7
    simp only [ref02_Name_eq, ref02_none_eq, ref01_Valid_eq t.y (by omega), Option.bind_some, lt_eq, ref01_Fun_eq, ref01_Same]
    by_cases h1 : t.k = 1 ∨ t.k = 2
    · have h1' : (decide (t.k = 1) || decide (t.k = 2)) = true := by simpa using h1
      rw [if_pos h1, h1', cond_true]
      by_cases hc : nameT t.n = true ∧ validY t.y = true ∧ t.i = 0 ∧ t.s.length = 0
      · rw [if_pos hc]
        obtain ⟨c1, c2, c3, c4⟩ := hc
        simp only [c1, c2, c3, c4, decide_true, cond_true, Int.natCast_zero]
        exact fmRel_some _
      · rw [if_neg hc]
        have e0 : ((t.s.length : Int) = 0) ↔ t.s.length = 0 := by omega
        have : ∀ z : Option (Ty × Bool), z = some (t.y, false) → fmRel z none := fun z hz => hz ▸ fmRel_none _
        apply this
        simp only [e0, Bool.cond_eq_ite]
        cases h2 : nameT t.n <;> cases h3 : validY t.y <;> by_cases h4 : t.i = 0 <;> by_cases h5 : t.s.length = 0 <;> simp_all
    have h1' : (decide (t.k = 1) || decide (t.k = 2)) = false := by simpa using h1
    rw [if_neg h1, h1', cond_false]
    by_cases h3 : t.k = 3
    · rw [if_pos h3, decide_eq_true h3, cond_true]
      by_cases hc : t.n = ⟨#[]⟩ ∧ noneY t.y = true ∧ t.s.length = 0 ∧ 0 ≤ t.i
      · rw [if_pos hc]
        obtain ⟨c1, c2, c3, c4⟩ := hc
        have c4' : ¬ t.i < 0 := by omega
        by_cases c5 : (o.length : Int) ≤ t.i
        · have e : o[t.i.toNat]? = none := List.getElem?_eq_none (by omega)
          rw [e]
          simp only [c5, decide_true, Bool.or_true, cond_true]
          exact fmRel_none _
        · obtain ⟨u, hu⟩ : ∃ u, o[t.i.toNat]? = some u := ⟨_, List.getElem?_eq_getElem (by omega)⟩
          have ei : ixL o t.i = some u := by unfold ixL; rw [if_pos c4, hu]
          rw [hu]
          simp only [c1, c2, c3, c5, c4', decide_true, decide_false, Bool.or_false, Bool.not_true, Int.natCast_zero, cond_false, ei, Option.bind_some]
          exact fmRel_some _
      · rw [if_neg hc]
        have : (!decide (t.n = ⟨#[]⟩) || (!noneY t.y || (!decide ((t.s.length : Int) = 0) || (decide (t.i < 0) || decide ((o.length : Int) ≤ t.i))))) = true := by
          have e0 : ((t.s.length : Int) = 0) ↔ t.s.length = 0 := by omega
          have e1 : (t.i < 0) ↔ ¬ 0 ≤ t.i := by omega
          simp only [e0, e1]
          cases h2 : noneY t.y <;> by_cases h4 : t.n = ⟨#[]⟩ <;> by_cases h5 : t.s.length = 0 <;> by_cases h6 : 0 ≤ t.i <;> simp_all
        rw [this, cond_true]
        exact fmRel_none _
    rw [if_neg h3, decide_eq_false h3, cond_false]
    by_cases h4 : t.k = 4
    · rw [if_pos h4, decide_eq_true h4, cond_true]
      by_cases hc : t.n = ⟨#[]⟩ ∧ noneY t.y = true ∧ t.i = 0
      · rw [if_pos hc]
        obtain ⟨c1, c2, c3⟩ := hc
        simp only [c1, c2, c3, decide_true, Bool.not_true, Bool.false_or]
        by_cases c4 : t.s.length = 2
        · obtain ⟨f, x, hs⟩ : ∃ f x, t.s = [f, x] := by
            match t.s, c4 with
            | [f, x], _ => exact ⟨f, x, rfl⟩
          have e2 : ((t.s.length : Int) = 2) := by omega
          simp only [e2, decide_true, Bool.not_true, cond_false]
          rw [hs]
          have i0 : ixL [f, x] 0 = some f := rfl
          have i1 : ixL [f, x] 1 = some x := rfl
          rw [i0, i1]
          simp only [Option.bind_some]
          have kf := fmRel_at (ih f (by rw [hs]; simp))
          have kx := fmRel_at (ih x (by rw [hs]; simp))
          rcases kf with ⟨hf, u, hfo⟩ | ⟨u, hf, hfo⟩
          · rw [hfo, hf]
            rcases kx with ⟨hx, v, hxo⟩ | ⟨v, hx, hxo⟩ <;> rw [hxo] <;> exact fmRel_none _
          · rcases kx with ⟨hx, v, hxo⟩ | ⟨v, hx, hxo⟩
            · rw [hfo, hf, hxo, hx]; exact fmRel_none _
            · rw [hfo, hf, hxo, hx]
              simp only [Option.bind_some, Bool.not_true, cond_false, apY]
              cases hv : u.v
              · by_cases hn : u.n = ⟨#[102, 117, 110]⟩
                · by_cases ha : u.a.length = 2
                  · obtain ⟨p, q, hpq⟩ : ∃ p q, u.a = [p, q] := by
                      match u.a, ha with
                      | [p, q], _ => exact ⟨p, q, rfl⟩
                    have e3 : ((u.a.length : Int) = 2) := by omega
                    have j0 : ixL [p, q] 0 = some p := rfl
                    have j1 : ixL [p, q] 1 = some q := rfl
                    simp only [hn, e3, hpq, j0, j1, Option.bind_some, decide_true, Bool.not_true, cond_false, Bool.false_eq_true, ne_eq, not_true, or_self, if_false]
                    by_cases hcm : cmpTy p v = 0
                    · simp only [hcm, decide_true, Bool.not_true, cond_false, if_true]; exact fmRel_some _
                    · simp only [hcm, decide_false, Bool.not_false, cond_true, if_false]; exact fmRel_none _
                  · have e3 : ¬ ((u.a.length : Int) = 2) := by omega
                    simp only [hn, e3, decide_true, decide_false, Bool.not_true, Bool.not_false, cond_true, cond_false, Bool.false_eq_true, ne_eq, not_true, or_self, if_false]
                    split
                    · rename_i hh; rw [hh] at ha; exact absurd rfl ha
                    · exact fmRel_none _
                · simp only [hn, decide_false, Bool.not_false, cond_true, cond_false, ne_eq, not_false_eq_true, or_true, if_true]; exact fmRel_none _
              · simp only [cond_true, true_or, if_true]; exact fmRel_none _
        · have e2 : ¬ ((t.s.length : Int) = 2) := by omega
          simp only [e2, decide_false, Bool.not_false, cond_true]
          split
          · rename_i hh; rw [hh] at c4; exact absurd rfl c4
          · exact fmRel_none _
      · rw [if_neg hc]
        have : (!decide (t.n = ⟨#[]⟩) || (!noneY t.y || (!decide (t.i = 0) || !decide ((t.s.length : Int) = 2)))) = true := by
          cases h2 : noneY t.y <;> by_cases h4 : t.n = ⟨#[]⟩ <;> by_cases h6 : t.i = 0 <;> simp_all
        rw [this, cond_true]
        exact fmRel_none _
    rw [if_neg h4, decide_eq_false h4, cond_false]
    by_cases h5 : t.k = 5
    · rw [if_pos h5, decide_eq_true h5, cond_true]
      by_cases hc : nameT t.n = true ∧ validY t.y = true ∧ t.i = 0
      · rw [if_pos hc]
        obtain ⟨c1, c2, c3⟩ := hc
        simp only [c1, c2, c3, decide_true, Bool.not_true, cond_false]
        by_cases c4 : t.s.length = 1
        · obtain ⟨b, hs⟩ : ∃ b, t.s = [b] := by
            match t.s, c4 with
            | [b], _ => exact ⟨b, rfl⟩
          have e2 : ((t.s.length : Int) = 1) := by omega
          have i0 : ixL [b] 0 = some b := rfl
          have hmem : b ∈ t.s := by rw [hs]; simp
          have hb1 := bkT_sub hmem
          have hd1 := dpT_sub hmem
          have hbs := bkTs_mem hmem
          have kb := fmRel_at (fmr_ok n b (t.y :: o) (hsub b hmem) (by simp only [bkL]; omega) (by simp; omega))
          have elim : 1 + o.length ≤ LIM := by simp only [LIM]; omega
          simp only [e2, decide_true, Bool.not_true, cond_false, hs, i0, Option.bind_some, elim, if_true, List.cons_append, List.nil_append]
          rcases kb with ⟨hf, u, hfo⟩ | ⟨u, hf, hfo⟩
          · rw [hfo, hf]; exact fmRel_none _
          · rw [hfo, hf]
            have hub := fm_bk (dpT b) b (t.y :: o) u (Nat.le_refl _) hf
            simp only [bkL] at hub
            have e3 : bkY (funY t.y u) ≤ 2 ^ 40 := by
              simp only [funY, bkY, bkYs]
              have : (ByteArray.size ⟨#[102, 117, 110]⟩) = 3 := rfl
              omega
            simp only [Option.bind_some, cond_true, ref01_Valid_eq _ e3]
            cases hv : validY (funY t.y u)
            · simp only [Bool.false_eq_true, if_false]; exact fmRel_none _
            · simp only [if_true]; exact fmRel_some _
        · have e2 : ¬ ((t.s.length : Int) = 1) := by omega
          simp only [e2, decide_false, Bool.not_false, cond_true]
          split
          · rename_i hh; rw [hh] at c4; exact absurd rfl c4
          · exact fmRel_none _
      · rw [if_neg hc]
        have : ∀ z : Option (Ty × Bool), z = some (Ty.mk false ⟨#[]⟩ [], false) → fmRel z none := fun z hz => hz ▸ fmRel_none _
        apply this
        simp only [Bool.cond_eq_ite]
        cases h2 : nameT t.n <;> cases h3 : validY t.y <;> by_cases h4 : t.i = 0 <;> by_cases h5 : (t.s.length : Int) = 1 <;> simp_all
    · rw [if_neg h5, decide_eq_false h5, cond_false]
      exact fmRel_none _
noncomputable def fmR (t : Tm) (o : List Ty) : Option (Ty × Bool) := ref02_Formed.fu (dpT t) t o
theorem fmR_pc (t : Tm) (o : List Ty) (r : Ty × Bool) (h : fmR t o = some r) : PC Go.Proofs.Try.prog 87 [.agg (tmC t), .sl false 3 (List.map tyC o)] (.tup [.agg (tyC r.1), .b r.2]) := ref02_Formed.fu_pc _ t o r h
/-- sequent/sequentref02.Check -/
def b73 : SCode :=
  (.seq (.ops [.op (some 1) (.bx (.t 0)),
      .op (some 2) (.mv (.c (.i .i64 0)))])
  (.seq (.seq (.ops [.op (some 5) (.ld (.t 1) 7 true),
      .call (some 6) (.c (.fn (.func 57) [] [])) [(.t 5)],
      .op (some 7) (.un .not (.t 6))])
  (.cond (.t 7) (.seq (.ops [.op (some 2) (.mv (.c (.i .i64 21)))])
    .ret)
    .skip))
  (.seq (.ops [.op (some 9) (.ld (.t 1) 7 true),
      .call (some 10) (.c (.fn (.func 87) [] [])) [(.t 9), (.c (.nils))],
      .op (some 8) (.mv (.t 10)),
      .op (some 11) (.ext (.t 8) 0),
      .op (some 12) (.ext (.t 8) 1),
      .op (some 3) (.alm 24 zTy),
      .op none (.st (.t 3) 3 (.t 11)),
      .op (some 4) (.mv (.t 12))])
  (.seq (.seq (.ops [.op (some 13) (.mv (.t 4)),
      .op (some 14) (.un .not (.t 13))])
  (.cond (.t 14) (.seq (.ops [.op (some 2) (.mv (.c (.i .i64 20)))])
    .ret)
    .skip))
  (.seq (.ops [.op (some 2) (.mv (.c (.i .i64 0)))])
  .ret)))))
theorem s73_ok : fnOk Go.Proofs.Try.prog Go.Proofs.Try.f73 ⟨15, [.t 2], b73⟩ = true := by kernel_rfl
def ref02_Check (t1 : Tm) : Option (Int) := (Option.bind (ref02_Small t1) fun r2 => (bif (!r2) then some 21 else (Option.bind (fmR t1 []) fun r3 => (bif (!r3.2) then some 20 else some 0))))
theorem ref02_Check_pc (t1 : Tm) (r : Int) (hF : ref02_Check t1 = some r) : PC Go.Proofs.Try.prog 73 [.agg (tmC t1)] (.i .i64 r) := by
  obtain ⟨z, hr⟩ : ∃ z, some r = some z := ⟨_, rfl⟩
  refine PC_z Go.Proofs.Try.func73 s73_ok (Nat.le_of_ble_eq_true rfl) fun hf => ?_
  unfold b73 start
  unfold ref02_Check at hF
  obtain ⟨r2, h1, hF⟩ := bind_of hF hr
  try simp -dsimp only [go_sem]
  refine call_ok (ref02_Small_pc t1  _ h1) (by simp -dsimp only [go_sem]) ?_
  try simp -dsimp only [go_sem]
  refine zif_of (fun h2 => ?_) (fun h2 => ?_)
  · skip
    replace hF := cond_t h2 hF
    cases hF
    simp -dsimp only [go_sem, h2]
  · skip
    replace hF := cond_f h2 hF
    obtain ⟨r3, h3, hF⟩ := bind_of hF hr
    try simp -dsimp only [go_sem, h2]
    refine call_ok (fmR_pc t1 []  _ h3) (by simp -dsimp only [go_sem, h2]) ?_
    try simp -dsimp only [go_sem, h2]
    refine zif_of (fun h4 => ?_) (fun h4 => ?_)
    · skip
      replace hF := cond_t h4 hF
      cases hF
      simp -dsimp only [go_sem, h2, h4]
    · skip
      replace hF := cond_f h4 hF
      cases hF
      simp -dsimp only [go_sem, h2, h4]
theorem ref02_Check_eq (t : Tm) (hb : bkT t ≤ 2 ^ 35) : ref02_Check t = some (chkT t) := by
  unfold ref02_Check chkT
  rw [ref02_Small_eq t (by omega)]
  cases hs : smallT t
  · simp
  · have hd := dpT_small hs
    have k := fmRel_at (fmr_ok (dpT t) t [] (Nat.le_refl _) (by simp only [bkL]; omega) (by simp; omega))
    simp only [Option.bind_some, Bool.not_true, cond_false, fmR, if_true]
    rcases k with ⟨h1, u, h2⟩ | ⟨u, h1, h2⟩
    · rw [h1, h2]; simp
    · rw [h1, h2]; simp
/-- sequent/sequentref02.Checks -/
def b37 : SCode :=
  (.seq (.ops [.op (some 2) (.mv (.c (.i .i64 0)))])
  (.seq (.seq (.ops [.op (some 3) (.mv (.c (.i .i64 0)))])
  (.block 0 (.loop (.seq (.seq (.ops [.op (some 5) (.mv (.t 3)),
      .op (some 6) (.mv (.t 0)),
      .op (some 7) (.len (.t 6)),
      .op (some 8) (.bi .lss (.t 5) (.t 7))])
  (.cond (.t 8) .skip
    (.exit 0)))
  (.seq (.block 1 (.seq (.ops [.op (some 11) (.mv (.t 0)),
      .op (some 12) (.mv (.t 3)),
      .op (some 13) (.ia 7 (.t 11) (.t 12)),
      .op (some 14) (.ld (.t 13) 7 true),
      .call (some 15) (.c (.fn (.func 73) [] [])) [(.t 14)],
      .op (some 4) (.mv (.t 15))])
  (.seq (.ops [.op (some 16) (.mv (.t 4)),
      .op (some 17) (.bi .neq (.t 16) (.c (.i .i64 0)))])
  (.cond (.t 17) (.seq (.ops [.op (some 18) (.mv (.t 4)),
        .op (some 2) (.mv (.t 18))])
    .ret)
    .skip))))
  (.ops [.op (some 9) (.mv (.t 3)),
      .op (some 10) (.bi .add (.t 9) (.c (.i .i64 1))),
      .op (some 3) (.mv (.t 10))]))))))
  (.seq (.ops [.op (some 2) (.mv (.c (.i .i64 0)))])
  .ret)))
theorem s37_ok : fnOk Go.Proofs.Try.prog Go.Proofs.Try.f37 ⟨19, [.t 2], b37⟩ = true := by kernel_rfl
def ref02_Checks.L1 (l1 : (List Tm)) : List Tm → Nat → Option (Int)
  | [], i4 => some 0
  | e5 :: rest, i4 => (Option.bind (ref02_Check e5) fun r6 => (bif (!decide (r6 = 0)) then some r6 else ((ref02_Checks.L1 l1 rest) (i4 + 1))))
def ref02_Checks (l1 : (List Tm)) : Option (Int) := (ref02_Checks.L1 l1 l1 0)
theorem ref02_Checks_pc (l1 : (List Tm)) (r : Int) (hF : ref02_Checks l1 = some r) : PC Go.Proofs.Try.prog 37 [.sl false 7 (List.map tmC l1)] (.i .i64 r) := by
  obtain ⟨z, hr⟩ : ∃ z, some r = some z := ⟨_, rfl⟩
  refine PC_z Go.Proofs.Try.func37 s37_ok (Nat.le_of_ble_eq_true rfl) fun hf => ?_
  unfold b37 start
  unfold ref02_Checks at hF
  try simp -dsimp only [go_sem]
  refine zloop_of (fun m s => ∃ (rest1 : List Tm) (i4 : Nat), List.drop i4 l1 = rest1 ∧ List.length rest1 = m ∧ s = ⟨[(0, .sl false 7 (List.map tmC l1)), (3, .i .i64 (i4 : Int))], []⟩ ∧ ref02_Checks.L1 l1 rest1 i4 = some r) (List.length l1) ⟨_, (Wks.ok (by simp -dsimp only [go_sem])), l1, 0, rfl, rfl, rfl, hF⟩ ?_
  clear hF
  rintro _ _ ⟨rest1, i4, hd1, rfl, rfl, hF⟩ hfit
  have h3 : List.length l1 ≤ LIM := by
    have h := hfit.t 0; simp only [e_lk, Nat.reduceBEq, cond_true, cond_false, Fit, FitL, ty_eq, tm_eq, List.length_map] at h; omega
  cases rest1 with
  | nil =>
    have h1 := dn hd1
    unfold ref02_Checks.L1 at hF
    cases hF
    simp -dsimp only [go_sem, h1]
  | cons e5 rest1 =>
    obtain ⟨h1, h2, hd1⟩ := dc hd1
    have h4 := wi h1 h3
    unfold ref02_Checks.L1 at hF
    obtain ⟨r6, h5, hF⟩ := bind_of hF hr
    try simp -dsimp only [go_sem, h1, h2, h4]
    refine call_ok (ref02_Check_pc e5  _ h5) (by simp -dsimp only [go_sem, h1, h2, h4]) ?_
    try simp -dsimp only [go_sem, h1, h2, h4]
    refine zif_of (fun h6 => ?_) (fun h6 => ?_)
    · skip
      replace hF := cond_t h6 hF
      cases hF
      simp -dsimp only [go_sem, h1, h2, h4, h6]
    · skip
      replace hF := cond_f h6 hF
      try simp -dsimp only [go_sem, h1, h2, h4, h6]
      exact ⟨List.length rest1, _, Nat.lt_succ_self _, (Wks.ok (by simp -dsimp only [go_sem, h1, h2, h4, h6])), rest1, i4 + 1, hd1, rfl, rfl, hF⟩
/-- The first error of terms. -/
def chkTs : List Tm → Int
  | [] => 0
  | t :: l => if chkT t ≠ 0 then chkT t else chkTs l
theorem ref02_Checks_eq (l : List Tm) (hb : ∀ t ∈ l, bkT t ≤ 2 ^ 35) : ref02_Checks l = some (chkTs l) := by
  have key : ∀ (ll r : List Tm) (i : Nat), (∀ t ∈ r, bkT t ≤ 2 ^ 35) → ref02_Checks.L1 ll r i = some (chkTs r) := by
    intro ll r
    induction r with
    | nil => intro i _; rfl
    | cons t r ih =>
      intro i h
      simp only [ref02_Checks.L1, chkTs, ref02_Check_eq t (h t (List.mem_cons_self ..)), Option.bind_some, ih _ (fun x hx => h x (List.mem_cons_of_mem _ hx))]
      by_cases hc : chkT t = 0 <;> simp [hc]
  exact key l l 0 hb
/-- sequent/sequentref02.Type -/
def b54 : SCode :=
  (.seq (.ops [.op (some 1) (.bx (.t 0)),
      .op (some 2) (.alm 24 zTy)])
  (.seq (.ops [.op (some 6) (.ld (.t 1) 7 true),
      .call (some 7) (.c (.fn (.func 87) [] [])) [(.t 6), (.c (.nils))],
      .op (some 5) (.mv (.t 7)),
      .op (some 8) (.ext (.t 5) 0),
      .op (some 9) (.ext (.t 5) 1),
      .op (some 3) (.alm 24 zTy),
      .op none (.st (.t 3) 3 (.t 8)),
      .op (some 4) (.mv (.t 9))])
  (.seq (.ops [.op (some 10) (.ld (.t 3) 3 true),
      .call (some 11) (.c (.fn (.func 88) [] [])) [(.t 10)],
      .op none (.st (.t 2) 3 (.t 11))])
  .ret)))
theorem s54_ok : fnOk Go.Proofs.Try.prog Go.Proofs.Try.f54 ⟨12, [.c 2 3 true], b54⟩ = true := by kernel_rfl
def ref02_Type (t1 : Tm) : Option (Ty) := (Option.bind (fmR t1 []) fun r2 => some r2.1)
theorem ref02_Type_pc (t1 : Tm) (r : Ty) (hF : ref02_Type t1 = some r) : PC Go.Proofs.Try.prog 54 [.agg (tmC t1)] (.agg (tyC r)) := by
  obtain ⟨z, hr⟩ : ∃ z, some r = some z := ⟨_, rfl⟩
  refine PC_z Go.Proofs.Try.func54 s54_ok (Nat.le_of_ble_eq_true rfl) fun hf => ?_
  unfold b54 start
  unfold ref02_Type at hF
  obtain ⟨r2, h1, hF⟩ := bind_of hF hr
  try simp -dsimp only [go_sem]
  refine call_ok (fmR_pc t1 []  _ h1) (by simp -dsimp only [go_sem]) ?_
  try simp -dsimp only [go_sem]
  refine call_ok (twinY_pc2 r2.1) (by simp -dsimp only [go_sem]) ?_
  cases hF
  simp -dsimp only [go_sem]
theorem ref02_Type_eq (t : Tm) (u : Ty) (hb : bkT t ≤ 2 ^ 35) (h : tyOf t = some u) : ref02_Type t = some u := by
  unfold tyOf at h
  split at h
  · rename_i hs
    have hd := dpT_small hs
    have k := fmRel_at (fmr_ok (dpT t) t [] (Nat.le_refl _) (by simp only [bkL]; omega) (by simp; omega))
    unfold ref02_Type fmR
    rcases k with ⟨h1, v, h2⟩ | ⟨v, h1, h2⟩
    · rw [h1] at h; cases h
    · rw [h2]; rw [h1] at h; cases h; rfl
  · cases h
/-- sequent/sequentref09.Formula -/
def b38 : SCode :=
  (.seq (.ops [.op (some 1) (.bx (.t 0)),
      .op (some 2) (.mv (.c (.b false)))])
  (.seq (.ops [.op (some 3) (.ld (.t 1) 7 true),
      .call (some 4) (.c (.fn (.func 54) [] [])) [(.t 3)],
      .call (some 5) (.c (.fn (.func 74) [] [])) [],
      .call (some 6) (.c (.fn (.func 53) [] [])) [(.t 4), (.t 5)],
      .op (some 2) (.mv (.t 6))])
  .ret))
theorem s38_ok : fnOk Go.Proofs.Try.prog Go.Proofs.Try.f38 ⟨7, [.t 2], b38⟩ = true := by kernel_rfl
def ref09_Formula (p1 : Tm) : Option (Bool) := (Option.bind (ref02_Type p1) fun r2 => (lt (ref01_Bool) fun r3 => some (ref01_Same r2 r3)))
theorem ref09_Formula_pc (p1 : Tm) (r : Bool) (hF : ref09_Formula p1 = some r) : PC Go.Proofs.Try.prog 38 [.agg (tmC p1)] (.b r) := by
  obtain ⟨z, hr⟩ : ∃ z, some r = some z := ⟨_, rfl⟩
  refine PC_z Go.Proofs.Try.func38 s38_ok (Nat.le_of_ble_eq_true rfl) fun hf => ?_
  unfold b38 start
  unfold ref09_Formula at hF
  obtain ⟨r2, h1, hF⟩ := bind_of hF hr
  try simp -dsimp only [go_sem]
  refine call_ok (ref02_Type_pc p1  _ h1) (by simp -dsimp only [go_sem]) ?_
  obtain ⟨r3, h2, hF⟩ := lt_of hF
  try simp -dsimp only [go_sem]
  have hp := (ref01_Bool_pc  )
  rw [h2] at hp
  refine call_ok hp (by simp -dsimp only [go_sem]) ?_
  clear hp
  try simp -dsimp only [go_sem]
  refine call_ok (ref01_Same_pc r2 r3 ) (by simp -dsimp only [go_sem]) ?_
  cases hF
  simp -dsimp only [go_sem]
theorem ref09_Formula_eq (t : Tm) (hb : bkT t ≤ 2 ^ 35) (h : chkT t = 0) : ref09_Formula t = some (isForm t) := by
  obtain ⟨u, hu⟩ := Option.isSome_iff_exists.1 ((chk_ty t).1 h)
  unfold ref09_Formula isForm
  rw [ref02_Type_eq t u hb hu, hu]
  rfl
/-- sequent/sequentref02.Twin -/
def b58 : SCode :=
  (.seq (.ops [.op (some 1) (.bx (.t 0)),
      .op (some 2) (.alm 27 zTm)])
  (.seq (.draw [.op (some 5) (.fa (.t 1) 0),
      .op (some 6) (.ldi (.t 5) 1 false),
      .op (some 7) (.fa (.t 1) 1),
      .op (some 8) (.ldi (.t 7) 1 false),
      .op (some 9) (.fa (.t 1) 2),
      .op (some 10) (.ldi (.t 9) 3 true),
      .call (some 11) (.c (.fn (.func 88) [] [])) [(.t 10)],
      .op (some 12) (.fa (.t 1) 5),
      .op (some 13) (.ldi (.t 12) 1 false),
      .op (some 14) (.bld zTm [(0, 1, (.t 6)), (1, 1, (.t 8)), (2, 3, (.t 11)), (5, 1, (.t 13))]),
      .op (some 3) (.alm 27 zTm),
      .op none (.st (.t 3) 7 (.t 14))])
  (.seq (.seq (.ops [.op (some 4) (.mv (.c (.i .i64 0)))])
  (.block 0 (.loop (.seq (.seq (.ops [.op (some 15) (.mv (.t 4)),
      .op (some 16) (.fa (.t 1) 6),
      .op (some 17) (.ld (.t 16) 1 false),
      .op (some 18) (.len (.t 17)),
      .op (some 19) (.bi .lss (.t 15) (.t 18))])
  (.cond (.t 19) .skip
    (.exit 0)))
  (.seq (.block 1 (.draw [.op (some 22) (.fa (.t 3) 6),
      .op (some 23) (.ld (.t 22) 1 false),
      .op (some 24) (.fa (.t 1) 6),
      .op (some 25) (.ldi (.t 24) 1 false),
      .op (some 26) (.mv (.t 4)),
      .op (some 27) (.ia 7 (.t 25) (.t 26)),
      .op (some 28) (.ld (.t 27) 7 true),
      .call (some 29) (.c (.fn (.func 58) [] [])) [(.t 28)],
      .op (some 30) (.bsl 7 [(.t 29)]),
      .op (some 31) (.app 27 7 (.t 23) (.t 30)),
      .op (some 32) (.fa (.t 3) 6),
      .op none (.st (.t 32) 1 (.t 31))]))
  (.ops [.op (some 20) (.mv (.t 4)),
      .op (some 21) (.bi .add (.t 20) (.c (.i .i64 1))),
      .op (some 4) (.mv (.t 21))]))))))
  (.seq (.ops [.op (some 33) (.ld (.t 3) 7 true),
      .op none (.st (.t 2) 7 (.t 33))])
  .ret))))
theorem s58_ok : fnOk Go.Proofs.Try.prog Go.Proofs.Try.f58 ⟨34, [.c 2 7 true], b58⟩ = true := by kernel_rfl
def ref02_Twin.L1 (self : Tm → Option (Tm)) (t1 : Tm) : List Tm → Nat → (List Tm) → Option (Tm)
  | [], i5, ls4 => some (Tm.mk t1.k t1.n t1.y t1.i ls4)
  | e6 :: rest, i5, ls4 => (Option.bind (self e6) fun r7 => (if List.length ls4 + 1 ≤ LIM then ((ref02_Twin.L1 self t1 rest) (i5 + 1) (ls4 ++ [r7])) else none))
def ref02_Twin.body (self : Tm → Option (Tm)) (t1 : Tm) : Option (Tm) := (ref02_Twin.L1 self t1 t1.s 0 [])
theorem ref02_Twin.body_pc (self : Tm → Option (Tm)) (t1 : Tm) (hself : ∀ a0 r, self a0 = some r → PC Go.Proofs.Try.prog 58 [.agg (tmC a0)] (.agg (tmC r))) (r : Tm) (hF : ref02_Twin.body self t1 = some r) : PC Go.Proofs.Try.prog 58 [.agg (tmC t1)] (.agg (tmC r)) := by
  obtain ⟨z, hr⟩ : ∃ z, some r = some z := ⟨_, rfl⟩
  refine PC_z Go.Proofs.Try.func58 s58_ok (Nat.le_of_ble_eq_true rfl) fun hf => ?_
  unfold b58 start
  unfold ref02_Twin.body at hF
  try simp -dsimp only [go_sem]
  refine call_ok (twinY_pc2 t1.y) (by simp -dsimp only [go_sem]) ?_
  try simp -dsimp only [go_sem]
  refine zloop_of (fun m s => ∃ (rest1 : List Tm) (i5 : Nat) (ls4 : (List Tm)), List.drop i5 t1.s = rest1 ∧ List.length rest1 = m ∧ s = ⟨[(1, .ip (tmC t1)), (2, .ptr 0 0), (3, .ptr 1 0), (4, .i .i64 (i5 : Int))], [.box 27 ([.i .u8 0, .s (⟨#[]⟩ : ByteArray), .b false, .s (⟨#[]⟩ : ByteArray), .nils, .i .i64 0, .nils]), .box 27 ([.i .u8 t1.k, .s t1.n, .b t1.y.v, .s t1.y.n, .sl false 3 (List.map tyC t1.y.a), .i .i64 t1.i, .row 2]), .row 27 7 (List.map tmC ls4)]⟩ ∧ ref02_Twin.L1 self t1 rest1 i5 ls4 = some r) (List.length t1.s) ⟨_, (Wks.trans (b := ⟨[(1, .ip (tmC t1)), (2, .ptr 0 0), (3, .ptr 1 0), (4, .i .i64 (0 : Int))], [.box 27 [.i .u8 0, .s (⟨#[]⟩ : ByteArray), .b false, .s (⟨#[]⟩ : ByteArray), .nils, .i .i64 0, .nils], .box 27 [.i .u8 t1.k, .s t1.n, .b t1.y.v, .s t1.y.n, .sl false 3 (List.map tyC t1.y.a), .i .i64 t1.i, .nils]]⟩) (Wks.ok (by simp -dsimp only [go_sem])) (Wks.trans (Wks.adoptB 1 _ _ 6 27 7 rfl (by simp -dsimp only [go_sem]) (by decide)) (Wks.ok (by simp -dsimp only [go_sem])))), t1.s, 0, [], rfl, rfl, rfl, hF⟩ ?_
  clear hF
  rintro _ _ ⟨rest1, i5, ls4, hd1, rfl, rfl, hF⟩ hfit
  have h3 : List.length t1.s ≤ LIM := by
    have h := hfit.t 1; simp only [e_lk, Nat.reduceBEq, cond_true, cond_false, Fit, FitL, ty_eq, tm_eq, List.length_map] at h; omega
  cases rest1 with
  | nil =>
    have h1 := dn hd1
    unfold ref02_Twin.L1 at hF
    cases hF
    simp -dsimp only [go_sem, h1]
  | cons e6 rest1 =>
    obtain ⟨h1, h2, hd1⟩ := dc hd1
    have h4 := wi h1 h3
    unfold ref02_Twin.L1 at hF
    obtain ⟨r7, h5, hF⟩ := bind_of hF hr
    try simp -dsimp only [go_sem, h1, h2, h4]
    refine call_ok (hself e6  _ h5) (by simp -dsimp only [go_sem, h1, h2, h4]) ?_
    obtain ⟨h6, hF⟩ := ite_of hF hr
    have h6t := eq_true h6
    try simp -dsimp only [go_sem, h1, h2, h4, h6t]
    exact ⟨List.length rest1, _, Nat.lt_succ_self _, (Wks.ok (by simp -dsimp only [go_sem, h1, h2, h4, h6t])), rest1, i5 + 1, (ls4 ++ [r7]), hd1, rfl, rfl, hF⟩
def ref02_Twin.fu : Nat → Tm → Option (Tm)
  | 0 => fun _ => none
  | n + 1 => ref02_Twin.body (ref02_Twin.fu n)
theorem ref02_Twin.fu_pc : ∀ (n : Nat) (a0 : Tm) (r : Tm), ref02_Twin.fu n a0 = some r → PC Go.Proofs.Try.prog 58 [.agg (tmC a0)] (.agg (tmC r))
  | 0, a0, r, h => by cases h
  | n + 1, a0, r, h => ref02_Twin.body_pc (ref02_Twin.fu n) a0 (ref02_Twin.fu_pc n) r h
theorem ref02_Twin_ok (t : Tm) (self : Tm → Option Tm) (hs : ∀ x ∈ t.s, self x = some x) (hl : t.s.length ≤ LIM) : ref02_Twin.body self t = some t := by
  have key : ∀ (rest : List Tm) (i : Nat) (ls : List Tm), (∀ x ∈ rest, x ∈ t.s) → ls.length + rest.length ≤ LIM → ref02_Twin.L1 self t rest i ls = some (Tm.mk t.k t.n t.y t.i (ls ++ rest)) := by
    intro rest
    induction rest with
    | nil => intro i ls _ h; simp [ref02_Twin.L1]
    | cons x l ih =>
      intro i ls hm h
      simp only [List.length_cons] at h
      simp only [ref02_Twin.L1, hs x (hm x (List.mem_cons_self ..)), Option.bind_some]
      rw [if_pos (by omega), ih _ _ (fun z hz => hm z (List.mem_cons_of_mem _ hz)) (by simp; omega)]
      simp
  unfold ref02_Twin.body
  rw [key t.s 0 [] (fun _ h => h) (by simpa using hl)]
  cases t; simp [Tm.k, Tm.n, Tm.y, Tm.i, Tm.s]
theorem twinT_pc2 : ∀ t : Tm, PC Go.Proofs.Try.prog 58 [.agg (tmC t)] (.agg (tmC t)) :=
  Tm.ind fun t ih => by
    refine PC.of_fit (Ent_of Go.Proofs.Try.func58 s58_ok) fun hf => ?_
    refine ref02_Twin.body_pc (fun x => og (x ∈ t.s) x) t (fun x r h => ?_) _ (ref02_Twin_ok t _ (fun x h => og_pos h) (fit_lenT t hf))
    obtain ⟨h1, rfl⟩ := og_of h
    exact ih x h1
/-- sequent/sequentref02.Done -/
def b39 : SCode :=
  (.seq (.ops [.op (some 1) (.bx (.t 0)),
      .op (some 2) (.alm 27 zTm),
      .op (some 3) (.mv (.c (.i .i64 0)))])
  (.seq (.ops [.op (some 5) (.ld (.t 1) 7 true),
      .call (some 6) (.c (.fn (.func 73) [] [])) [(.t 5)],
      .op (some 4) (.mv (.t 6))])
  (.seq (.seq (.ops [.op (some 7) (.mv (.t 4)),
      .op (some 8) (.bi .neq (.t 7) (.c (.i .i64 0)))])
  (.cond (.t 8) (.seq (.ops [.op (some 9) (.bld zTm []),
        .op (some 10) (.mv (.t 4)),
        .op none (.st (.t 2) 7 (.t 9)),
        .op (some 3) (.mv (.t 10))])
    .ret)
    .skip))
  (.seq (.ops [.op (some 11) (.ld (.t 1) 7 true),
      .call (some 12) (.c (.fn (.func 58) [] [])) [(.t 11)],
      .op none (.st (.t 2) 7 (.t 12)),
      .op (some 3) (.mv (.c (.i .i64 0)))])
  .ret))))
theorem s39_ok : fnOk Go.Proofs.Try.prog Go.Proofs.Try.f39 ⟨13, [.c 2 7 true, .t 3], b39⟩ = true := by kernel_rfl
def ref02_Done (t1 : Tm) : Option (Tm × Int) := (Option.bind (ref02_Check t1) fun r2 => (bif (!decide (r2 = 0)) then some ((Tm.mk 0 (⟨#[]⟩ : ByteArray) (Ty.mk false (⟨#[]⟩ : ByteArray) []) 0 []), r2) else some (t1, 0)))
theorem ref02_Done_pc (t1 : Tm) (r : Tm × Int) (hF : ref02_Done t1 = some r) : PC Go.Proofs.Try.prog 39 [.agg (tmC t1)] (.tup [.agg (tmC r.1), .i .i64 r.2]) := by
  obtain ⟨z, hr⟩ : ∃ z, some r = some z := ⟨_, rfl⟩
  refine PC_z Go.Proofs.Try.func39 s39_ok (Nat.le_of_ble_eq_true rfl) fun hf => ?_
  unfold b39 start
  unfold ref02_Done at hF
  obtain ⟨r2, h1, hF⟩ := bind_of hF hr
  try simp -dsimp only [go_sem]
  refine call_ok (ref02_Check_pc t1  _ h1) (by simp -dsimp only [go_sem]) ?_
  try simp -dsimp only [go_sem]
  refine zif_of (fun h2 => ?_) (fun h2 => ?_)
  · skip
    replace hF := cond_t h2 hF
    cases hF
    simp -dsimp only [go_sem, h2]
  · skip
    replace hF := cond_f h2 hF
    try simp -dsimp only [go_sem, h2]
    refine call_ok (twinT_pc2 t1) (by simp -dsimp only [go_sem, h2]) ?_
    cases hF
    simp -dsimp only [go_sem, h2]
theorem ref02_Done_eq (t : Tm) (hb : bkT t ≤ 2 ^ 35) : ref02_Done t = some (if chkT t = 0 then (t, 0) else (zeroT, chkT t)) := by
  unfold ref02_Done
  rw [ref02_Check_eq t hb]
  by_cases h : chkT t = 0 <;> simp [h, zeroT, zeroY]

end
end Go.Ab.Q
