/- A part of the proof: Q3. -/
import Derived.Test.YtjfjcmfncgfhoaaAbY
import Derived.Test.YtjfjcmfncgfhoaaProg
import Derived.KernelRfl
import Derived.Test.YtjfjcmfncgfhoaaQ1
import Derived.Test.YtjfjcmfncgfhoaaQ2
set_option linter.all false
set_option maxRecDepth 100000
set_option maxHeartbeats 4000000
set_option linter.unusedSimpArgs false
set_option linter.unusedVariables false
namespace Go.Ab.Q
open Go.RowKit
noncomputable section

/-- sequent/sequentref02.Compare -/
def b43 : SCode :=
  (.seq (.ops [.op (some 2) (.bx (.t 0)),
      .op (some 3) (.bx (.t 1)),
      .op (some 4) (.mv (.c (.i .i64 0)))])
  (.seq (.ops [.op (some 7) (.fa (.t 2) 0),
      .op (some 8) (.ld (.t 7) 1 false),
      .op (some 9) (.fa (.t 3) 0),
      .op (some 10) (.ld (.t 9) 1 false),
      .op (some 11) (.bi .lss (.t 8) (.t 10)),
      .op (some 12) (.fa (.t 2) 0),
      .op (some 13) (.ld (.t 12) 1 false),
      .op (some 14) (.fa (.t 3) 0),
      .op (some 15) (.ld (.t 14) 1 false),
      .op (some 16) (.bi .eql (.t 13) (.t 15)),
      .call (some 17) (.c (.fn (.func 79) [] [])) [(.t 11), (.t 16)],
      .op (some 5) (.mv (.t 17))])
  (cutS (cutS (.ops [.op (some 18) (.mv (.t 5)),
      .op (some 19) (.bi .eql (.t 18) (.c (.i .i64 0))),
      .op (some 20) (.mv (.t 19)),
      .gd 20 true (some 21) (.op (some 21) (.fa (.t 2) 0)),
      .gd 20 true (some 22) (.op (some 22) (.ld (.t 21) 1 false)),
      .gd 20 true (some 23) (.op (some 23) (.bi .neq (.t 22) (.c (.i .u8 5)))),
      .op (some 24) (.pk (.t 20) (.t 23) (.c (.b false)))])
  (.cond (.t 24) (.ops [.op (some 25) (.fa (.t 2) 1),
        .op (some 26) (.ld (.t 25) 1 false),
        .op (some 27) (.fa (.t 3) 1),
        .op (some 28) (.ld (.t 27) 1 false),
        .op (some 29) (.bi .lss (.t 26) (.t 28)),
        .op (some 30) (.fa (.t 2) 1),
        .op (some 31) (.ld (.t 30) 1 false),
        .op (some 32) (.fa (.t 3) 1),
        .op (some 33) (.ld (.t 32) 1 false),
        .op (some 34) (.bi .eql (.t 31) (.t 33)),
        .call (some 35) (.c (.fn (.func 79) [] [])) [(.t 29), (.t 34)],
        .op (some 5) (.mv (.t 35))])
    .skip))
  (cutS (.seq (.ops [.op (some 36) (.mv (.t 5)),
      .op (some 37) (.bi .eql (.t 36) (.c (.i .i64 0)))])
  (.cond (.t 37) (.ops [.op (some 38) (.fa (.t 2) 2),
        .op (some 39) (.ld (.t 38) 3 true),
        .op (some 40) (.fa (.t 3) 2),
        .op (some 41) (.ld (.t 40) 3 true),
        .call (some 42) (.c (.fn (.func 80) [] [])) [(.t 39), (.t 41)],
        .op (some 5) (.mv (.t 42))])
    .skip))
  (cutS (.seq (.ops [.op (some 43) (.mv (.t 5)),
      .op (some 44) (.bi .eql (.t 43) (.c (.i .i64 0)))])
  (.cond (.t 44) (.ops [.op (some 45) (.fa (.t 2) 5),
        .op (some 46) (.ld (.t 45) 1 false),
        .op (some 47) (.fa (.t 3) 5),
        .op (some 48) (.ld (.t 47) 1 false),
        .op (some 49) (.bi .lss (.t 46) (.t 48)),
        .op (some 50) (.fa (.t 2) 5),
        .op (some 51) (.ld (.t 50) 1 false),
        .op (some 52) (.fa (.t 3) 5),
        .op (some 53) (.ld (.t 52) 1 false),
        .op (some 54) (.bi .eql (.t 51) (.t 53)),
        .call (some 55) (.c (.fn (.func 79) [] [])) [(.t 49), (.t 54)],
        .op (some 5) (.mv (.t 55))])
    .skip))
  (cutS (.seq (.ops [.op (some 56) (.mv (.t 5)),
      .op (some 57) (.bi .eql (.t 56) (.c (.i .i64 0)))])
  (.cond (.t 57) (.ops [.op (some 58) (.fa (.t 2) 6),
        .op (some 59) (.ld (.t 58) 1 false),
        .op (some 60) (.len (.t 59)),
        .op (some 61) (.fa (.t 3) 6),
        .op (some 62) (.ld (.t 61) 1 false),
        .op (some 63) (.len (.t 62)),
        .op (some 64) (.bi .lss (.t 60) (.t 63)),
        .op (some 65) (.fa (.t 2) 6),
        .op (some 66) (.ld (.t 65) 1 false),
        .op (some 67) (.len (.t 66)),
        .op (some 68) (.fa (.t 3) 6),
        .op (some 69) (.ld (.t 68) 1 false),
        .op (some 70) (.len (.t 69)),
        .op (some 71) (.bi .eql (.t 67) (.t 70)),
        .call (some 72) (.c (.fn (.func 79) [] [])) [(.t 64), (.t 71)],
        .op (some 5) (.mv (.t 72))])
    .skip))
  (.seq (.seq (.ops [.op (some 6) (.mv (.c (.i .i64 0)))])
  (.block 0 (.loop (.seq (cutS (.ops [.op (some 73) (.mv (.t 5)),
      .op (some 74) (.bi .eql (.t 73) (.c (.i .i64 0))),
      .op (some 75) (.mv (.t 74)),
      .gd 75 true (some 76) (.op (some 76) (.mv (.t 6))),
      .gd 75 true (some 77) (.op (some 77) (.fa (.t 2) 6)),
      .gd 75 true (some 78) (.op (some 78) (.ld (.t 77) 1 false)),
      .gd 75 true (some 79) (.op (some 79) (.len (.t 78))),
      .gd 75 true (some 80) (.op (some 80) (.bi .lss (.t 76) (.t 79))),
      .op (some 81) (.pk (.t 75) (.t 80) (.c (.b false)))])
  (.cond (.t 81) .skip
    (.exit 0)))
  (.seq (.block 1 (.draw [.op (some 84) (.fa (.t 2) 6),
      .op (some 85) (.ldi (.t 84) 1 false),
      .op (some 86) (.mv (.t 6)),
      .op (some 87) (.ia 7 (.t 85) (.t 86)),
      .op (some 88) (.ld (.t 87) 7 true),
      .op (some 89) (.fa (.t 3) 6),
      .op (some 90) (.ldi (.t 89) 1 false),
      .op (some 91) (.mv (.t 6)),
      .op (some 92) (.ia 7 (.t 90) (.t 91)),
      .op (some 93) (.ld (.t 92) 7 true),
      .call (some 94) (.c (.fn (.func 43) [] [])) [(.t 88), (.t 93)],
      .op (some 5) (.mv (.t 94))]))
  (.ops [.op (some 82) (.mv (.t 6)),
      .op (some 83) (.bi .add (.t 82) (.c (.i .i64 1))),
      .op (some 6) (.mv (.t 83))]))))))
  (.seq (.ops [.op (some 95) (.mv (.t 5)),
      .op (some 4) (.mv (.t 95))])
  .ret))))))))
theorem s43_ok : fnOk Go.Proofs.Try.prog Go.Proofs.Try.f43 ⟨96, [.t 4], b43⟩ = true := by kernel_rfl
def ref02_Compare.L6 (self : Tm → Tm → Option (Int)) (x1 : Tm) (x2 : Tm) : List Tm → Nat → Int → Option (Int)
  | [], x11, x10 => some x10
  | e12 :: rest, x11, x10 => (bif (decide (x10 = 0)) then (Option.bind (ixL x2.s (x11 : Int)) fun e13 => (Option.bind (self e12 e13) fun r14 => ((ref02_Compare.L6 self x1 x2 rest) (x11 + 1) r14))) else some x10)
def ref02_Compare.J5 (self : Tm → Tm → Option (Int)) (x1 : Tm) (x2 : Tm) (x6 : Int) : Option (Int) := (ref02_Compare.L6 self x1 x2 x1.s 0 x6)
def ref02_Compare.J4 (self : Tm → Tm → Option (Int)) (x1 : Tm) (x2 : Tm) (x5 : Int) : Option (Int) := (bif (decide (x5 = 0)) then (ref02_Compare.J5 self x1 x2 (ref02_sign (decide ((List.length x1.s : Int) < (List.length x2.s : Int))) (decide ((List.length x1.s : Int) = (List.length x2.s : Int))))) else (ref02_Compare.J5 self x1 x2 x5))
def ref02_Compare.J3 (self : Tm → Tm → Option (Int)) (x1 : Tm) (x2 : Tm) (x4 : Int) : Option (Int) := (bif (decide (x4 = 0)) then (ref02_Compare.J4 self x1 x2 (ref02_sign (decide (x1.i < x2.i)) (decide (x1.i = x2.i)))) else (ref02_Compare.J4 self x1 x2 x4))
def ref02_Compare.J2 (self : Tm → Tm → Option (Int)) (x1 : Tm) (x2 : Tm) (x3 : Int) : Option (Int) := (bif (decide (x3 = 0)) then (ref02_Compare.J3 self x1 x2 (cmpTy x1.y x2.y)) else (ref02_Compare.J3 self x1 x2 x3))
def ref02_Compare.body (self : Tm → Tm → Option (Int)) (x1 : Tm) (x2 : Tm) : Option (Int) := (bif ((decide ((ref02_sign (decide (x1.k < x2.k)) (decide (x1.k = x2.k))) = 0)) && (!decide (x1.k = 5))) then (ref02_Compare.J2 self x1 x2 (ref02_sign (blt x1.n x2.n) (decide (x1.n = x2.n)))) else (ref02_Compare.J2 self x1 x2 (ref02_sign (decide (x1.k < x2.k)) (decide (x1.k = x2.k)))))
theorem ref02_Compare.body_pc (self : Tm → Tm → Option (Int)) (x1 : Tm) (x2 : Tm) (hself : ∀ a0 a1 r, self a0 a1 = some r → PC Go.Proofs.Try.prog 43 [.agg (tmC a0), .agg (tmC a1)] (.i .i64 r)) (r : Int) (hF : ref02_Compare.body self x1 x2 = some r) : PC Go.Proofs.Try.prog 43 [.agg (tmC x1), .agg (tmC x2)] (.i .i64 r) := by
  obtain ⟨z, hr⟩ : ∃ z, some r = some z := ⟨_, rfl⟩
  refine PC_z Go.Proofs.Try.func43 s43_ok (Nat.le_of_ble_eq_true rfl) fun hf => ?_
  unfold b43 start
  unfold ref02_Compare.body at hF
  try simp -dsimp only [go_sem]
  refine call_ok (ref02_sign_pc (decide (x1.k < x2.k)) (decide (x1.k = x2.k)) ) (by simp -dsimp only [go_sem]) ?_
  try simp -dsimp only [go_sem]
  refine zcut_of (fun s => ∃ (x3 : Int), s = ⟨[(2, .ip (tmC x1)), (3, .ip (tmC x2)), (5, .i .i64 x3)], []⟩ ∧ ref02_Compare.J2 self x1 x2 x3 = some r) ?_ ?_
  · skip
    try simp -dsimp only [go_sem]
    refine zcut_of (fun s => s = ⟨[(2, .ip (tmC x1)), (3, .ip (tmC x2)), (5, .i .i64 (ref02_sign (decide (x1.k < x2.k)) (decide (x1.k = x2.k)))), (24, .b ((decide ((ref02_sign (decide (x1.k < x2.k)) (decide (x1.k = x2.k))) = 0)) && (!decide (x1.k = 5))))], []⟩) ?_ ?_
    · skip
      try simp -dsimp only [go_sem]
      refine zif_of (fun h2 => ?_) (fun h2 => ?_)
      · skip
        try simp -dsimp only [go_sem, h2]
        exact ⟨_, (Wks.ok (by simp -dsimp only [go_sem, h2])), rfl⟩
      · skip
        try simp -dsimp only [go_sem, h2]
        exact ⟨_, (Wks.ok (by simp -dsimp only [go_sem, h2])), rfl⟩
    rintro _ rfl hfit
    try simp -dsimp only [go_sem]
    refine zif_of (fun h3 => ?_) (fun h3 => ?_)
    · skip
      replace hF := cond_t h3 hF
      try simp -dsimp only [go_sem, h3]
      refine call_ok (ref02_sign_pc (blt x1.n x2.n) (decide (x1.n = x2.n)) ) (by simp -dsimp only [go_sem, h3]) ?_
      try simp -dsimp only [go_sem, h3]
      exact ⟨_, (Wks.ok (by simp -dsimp only [go_sem, h3])), (ref02_sign (blt x1.n x2.n) (decide (x1.n = x2.n))), rfl, hF⟩
    · skip
      replace hF := cond_f h3 hF
      try simp -dsimp only [go_sem, h3]
      exact ⟨_, (Wks.ok (by simp -dsimp only [go_sem, h3])), (ref02_sign (decide (x1.k < x2.k)) (decide (x1.k = x2.k))), rfl, hF⟩
  clear hF
  rintro _ ⟨x3, rfl, hF⟩ hfit
  unfold ref02_Compare.J2 at hF
  try simp -dsimp only [go_sem]
  refine zcut_of (fun s => ∃ (x4 : Int), s = ⟨[(2, .ip (tmC x1)), (3, .ip (tmC x2)), (5, .i .i64 x4)], []⟩ ∧ ref02_Compare.J3 self x1 x2 x4 = some r) ?_ ?_
  · skip
    try simp -dsimp only [go_sem]
    refine zif_of (fun h5 => ?_) (fun h5 => ?_)
    · skip
      replace hF := cond_t h5 hF
      try simp -dsimp only [go_sem, h5]
      refine call_ok (cmpTy_pc x1.y x2.y ) (by simp -dsimp only [go_sem, h5]) ?_
      try simp -dsimp only [go_sem, h5]
      exact ⟨_, (Wks.ok (by simp -dsimp only [go_sem, h5])), (cmpTy x1.y x2.y), rfl, hF⟩
    · skip
      replace hF := cond_f h5 hF
      try simp -dsimp only [go_sem, h5]
      exact ⟨_, (Wks.ok (by simp -dsimp only [go_sem, h5])), x3, rfl, hF⟩
  clear hF
  rintro _ ⟨x4, rfl, hF⟩ hfit
  unfold ref02_Compare.J3 at hF
  try simp -dsimp only [go_sem]
  refine zcut_of (fun s => ∃ (x5 : Int), s = ⟨[(2, .ip (tmC x1)), (3, .ip (tmC x2)), (5, .i .i64 x5)], []⟩ ∧ ref02_Compare.J4 self x1 x2 x5 = some r) ?_ ?_
  · skip
    try simp -dsimp only [go_sem]
    refine zif_of (fun h7 => ?_) (fun h7 => ?_)
    · skip
      replace hF := cond_t h7 hF
      try simp -dsimp only [go_sem, h7]
      refine call_ok (ref02_sign_pc (decide (x1.i < x2.i)) (decide (x1.i = x2.i)) ) (by simp -dsimp only [go_sem, h7]) ?_
      try simp -dsimp only [go_sem, h7]
      exact ⟨_, (Wks.ok (by simp -dsimp only [go_sem, h7])), (ref02_sign (decide (x1.i < x2.i)) (decide (x1.i = x2.i))), rfl, hF⟩
    · skip
      replace hF := cond_f h7 hF
      try simp -dsimp only [go_sem, h7]
      exact ⟨_, (Wks.ok (by simp -dsimp only [go_sem, h7])), x4, rfl, hF⟩
  clear hF
  rintro _ ⟨x5, rfl, hF⟩ hfit
  unfold ref02_Compare.J4 at hF
  try simp -dsimp only [go_sem]
  refine zcut_of (fun s => ∃ (x6 : Int), s = ⟨[(2, .ip (tmC x1)), (3, .ip (tmC x2)), (5, .i .i64 x6)], []⟩ ∧ ref02_Compare.J5 self x1 x2 x6 = some r) ?_ ?_
  · skip
    try simp -dsimp only [go_sem]
    refine zif_of (fun h9 => ?_) (fun h9 => ?_)
    · skip
      replace hF := cond_t h9 hF
      try simp -dsimp only [go_sem, h9]
      refine call_ok (ref02_sign_pc (decide ((List.length x1.s : Int) < (List.length x2.s : Int))) (decide ((List.length x1.s : Int) = (List.length x2.s : Int))) ) (by simp -dsimp only [go_sem, h9]) ?_
      try simp -dsimp only [go_sem, h9]
      exact ⟨_, (Wks.ok (by simp -dsimp only [go_sem, h9])), (ref02_sign (decide ((List.length x1.s : Int) < (List.length x2.s : Int))) (decide ((List.length x1.s : Int) = (List.length x2.s : Int)))), rfl, hF⟩
    · skip
      replace hF := cond_f h9 hF
      try simp -dsimp only [go_sem, h9]
      exact ⟨_, (Wks.ok (by simp -dsimp only [go_sem, h9])), x5, rfl, hF⟩
  clear hF
  rintro _ ⟨x6, rfl, hF⟩ hfit
  unfold ref02_Compare.J5 at hF
  try simp -dsimp only [go_sem]
  refine zloop_of (fun m s => ∃ (rest6 : List Tm) (x11 : Nat) (x10 : Int), List.drop x11 x1.s = rest6 ∧ List.length rest6 = m ∧ s = ⟨[(2, .ip (tmC x1)), (3, .ip (tmC x2)), (5, .i .i64 x10), (6, .i .i64 (x11 : Int))], []⟩ ∧ ref02_Compare.L6 self x1 x2 rest6 x11 x10 = some r) (List.length x1.s) ⟨_, (Wks.ok (by simp -dsimp only [go_sem])), x1.s, 0, x6, rfl, rfl, rfl, hF⟩ ?_
  clear hF
  rintro _ _ ⟨rest6, x11, x10, hd6, rfl, rfl, hF⟩ hfit
  have h12 : List.length x1.s ≤ LIM := by
    have h := hfit.t 2; simp only [e_lk, Nat.reduceBEq, cond_true, cond_false, Fit, FitL, ty_eq, tm_eq, List.length_map] at h; omega
  cases rest6 with
  | nil =>
    have h10 := dn hd6
    unfold ref02_Compare.L6 at hF
    try simp -dsimp only [go_sem, h10]
    refine zcut_of (fun s => s = ⟨[(2, .ip (tmC x1)), (3, .ip (tmC x2)), (5, .i .i64 x10), (6, .i .i64 (x11 : Int)), (81, .b false)], []⟩) ?_ ?_
    · skip
      try simp -dsimp only [go_sem, h10]
      refine zif_of (fun h14 => ?_) (fun h14 => ?_)
      · skip
        try simp -dsimp only [go_sem, h10, h14]
        exact ⟨_, (Wks.ok (by simp -dsimp only [go_sem, h10, h14])), rfl⟩
      · skip
        try simp -dsimp only [go_sem, h10, h14]
        exact ⟨_, (Wks.ok (by simp -dsimp only [go_sem, h10, h14])), rfl⟩
    rintro _ rfl hfit
    cases hF
    simp -dsimp only [go_sem, h10]
  | cons e12 rest6 =>
    obtain ⟨h10, h11, hd6⟩ := dc hd6
    have h13 := wi h10 h12
    unfold ref02_Compare.L6 at hF
    try simp -dsimp only [go_sem, h10, h11, h13]
    refine zcut_of (fun s => s = ⟨[(2, .ip (tmC x1)), (3, .ip (tmC x2)), (5, .i .i64 x10), (6, .i .i64 (x11 : Int)), (81, .b (decide (x10 = 0)))], []⟩) ?_ ?_
    · skip
      try simp -dsimp only [go_sem, h10, h11, h13]
      refine zif_of (fun h15 => ?_) (fun h15 => ?_)
      · skip
        try simp -dsimp only [go_sem, h10, h11, h13, h15]
        exact ⟨_, (Wks.ok (by simp -dsimp only [go_sem, h10, h11, h13, h15])), rfl⟩
      · skip
        try simp -dsimp only [go_sem, h10, h11, h13, h15]
        exact ⟨_, (Wks.ok (by simp -dsimp only [go_sem, h10, h11, h13, h15])), rfl⟩
    rintro _ rfl hfit
    try simp -dsimp only [go_sem, h10, h11, h13]
    refine zif_of (fun h16 => ?_) (fun h16 => ?_)
    · skip
      replace hF := cond_t h16 hF
      obtain ⟨e13, h17, hF⟩ := bind_of hF hr
      obtain ⟨h18, h17⟩ := ixL_of h17
      simp only [Int.toNat_natCast] at h17
      obtain ⟨r14, h19, hF⟩ := bind_of hF hr
      try simp -dsimp only [go_sem, h10, h11, h13, h16, h17]
      refine call_ok (hself e12 e13  _ h19) (by simp -dsimp only [go_sem, h10, h11, h13, h16, h17]) ?_
      try simp -dsimp only [go_sem, h10, h11, h13, h16, h17]
      exact ⟨List.length rest6, _, Nat.lt_succ_self _, (Wks.ok (by simp -dsimp only [go_sem, h10, h11, h13, h16, h17])), rest6, x11 + 1, r14, hd6, rfl, rfl, hF⟩
    · skip
      replace hF := cond_f h16 hF
      cases hF
      simp -dsimp only [go_sem, h10, h11, h13, h16]
def ref02_Compare.fu : Nat → Tm → Tm → Option (Int)
  | 0 => fun _ _ => none
  | n + 1 => ref02_Compare.body (ref02_Compare.fu n)
theorem ref02_Compare.fu_pc : ∀ (n : Nat) (a0 : Tm) (a1 : Tm) (r : Int), ref02_Compare.fu n a0 a1 = some r → PC Go.Proofs.Try.prog 43 [.agg (tmC a0), .agg (tmC a1)] (.i .i64 r)
  | 0, a0, a1, r, h => by cases h
  | n + 1, a0, a1, r, h => ref02_Compare.body_pc (ref02_Compare.fu n) a0 a1 (ref02_Compare.fu_pc n) r h
theorem ref02_sign_eq (a b : Int) : ref02_sign (decide (a < b)) (decide (a = b)) = cmpI a b := by
  unfold ref02_sign cmpI; simp only [Bool.cond_eq_ite]; grind
theorem ref02_signB_eq (a b : ByteArray) : ref02_sign (blt a b) (decide (a = b)) = cmpB a b := by
  rw [cmpB_eq]; unfold ref02_sign; simp only [Bool.cond_eq_ite]; grind
theorem ref02_Compare_ok (t u : Tm) (self : Tm → Tm → Option Int) (hs : ∀ x ∈ t.s, ∀ y, self x y = some (cmpTm x y)) : ref02_Compare.body self t u = some (cmpTm t u) := by
  have key : ∀ (rest : List Tm) (i : Nat) (c : Int), i + rest.length = u.s.length → (∀ x ∈ rest, x ∈ t.s) → ref02_Compare.L6 self t u rest i c = some (orI c (lexL cmpTm rest (u.s.drop i))) := by
    intro rest
    induction rest with
    | nil => intro i c _ _; simp only [ref02_Compare.L6, lexL, orI]; grind
    | cons x l ih =>
      intro i c hl hm
      obtain ⟨y, h1, h2⟩ := drop_get (l := u.s) (i := i) (by simp at hl; omega)
      simp only [ref02_Compare.L6, ixL_nat, h1, Option.bind_some, hs x (hm x (List.mem_cons_self ..)), h2, lexL]
      rw [ih (i + 1) _ (by simp at hl; omega) (fun z hz => hm z (List.mem_cons_of_mem _ hz))]
      simp only [orI, Bool.cond_eq_ite]; grind
  unfold ref02_Compare.body ref02_Compare.J2 ref02_Compare.J3 ref02_Compare.J4 ref02_Compare.J5
  have e3 : (decide ((t.s.length : Int) = (u.s.length : Int))) = decide ((t.s.length : Int) = (u.s.length : Int)) := rfl
  simp only [ref02_sign_eq, ref02_signB_eq]
  rw [cmpTm_eq]
  have k0 : ∀ c : Int, c ≠ 0 → ref02_Compare.L6 self t u t.s 0 c = some c := by
    intro c hc
    cases t.s with
    | nil => rfl
    | cons x l => simp [ref02_Compare.L6, hc]
  by_cases h3 : t.s.length = u.s.length
  · have k := fun c => key t.s 0 c (by omega) (fun _ h => h)
    simp only [k, List.drop_zero]
    unfold orI
    simp only [Bool.cond_eq_ite]
    grind
  · have h4 : cmpI (t.s.length : Int) (u.s.length : Int) ≠ 0 := by unfold cmpI; grind
    clear key
    unfold orI
    simp only [Bool.cond_eq_ite]
    grind
theorem cmpTm_pc : ∀ t u : Tm, PC Go.Proofs.Try.prog 43 [.agg (tmC t), .agg (tmC u)] (.i .i64 (cmpTm t u)) :=
  Tm.ind fun t ih u => ref02_Compare.body_pc _ t u (fun x y r h => by obtain ⟨h1, rfl⟩ := og_of h; exact ih x h1 y) _ (ref02_Compare_ok t u (fun x y => og (x ∈ t.s) (cmpTm x y)) (fun x h y => og_pos h))
/-- sequent/sequentref02.Same -/
def b15 : SCode :=
  (.seq (.ops [.op (some 2) (.bx (.t 0)),
      .op (some 3) (.bx (.t 1)),
      .op (some 4) (.mv (.c (.b false)))])
  (.seq (.ops [.op (some 5) (.ld (.t 2) 7 true),
      .op (some 6) (.ld (.t 3) 7 true),
      .call (some 7) (.c (.fn (.func 43) [] [])) [(.t 5), (.t 6)],
      .op (some 8) (.bi .eql (.t 7) (.c (.i .i64 0))),
      .op (some 4) (.mv (.t 8))])
  .ret))
theorem s15_ok : fnOk Go.Proofs.Try.prog Go.Proofs.Try.f15 ⟨9, [.t 4], b15⟩ = true := by kernel_rfl
def ref02_Same (a1 : Tm) (b2 : Tm) : Bool := (decide ((cmpTm a1 b2) = 0))
theorem ref02_Same_pc (a1 : Tm) (b2 : Tm) : PC Go.Proofs.Try.prog 15 [.agg (tmC a1), .agg (tmC b2)] (.b (ref02_Same a1 b2)) := by
  obtain ⟨r, hF⟩ : ∃ r, ref02_Same a1 b2 = r := ⟨_, rfl⟩
  rw [hF]
  refine PC_z Go.Proofs.Try.func15 s15_ok (Nat.le_of_ble_eq_true rfl) fun hf => ?_
  unfold b15 start
  unfold ref02_Same at hF
  try simp -dsimp only [go_sem]
  refine call_ok (cmpTm_pc a1 b2 ) (by simp -dsimp only [go_sem]) ?_
  subst hF
  simp -dsimp only [go_sem]
/-- slices.CompareFunc[[]sequent/api.Term,[]sequent/api.Term,sequent/api.Term,sequent/api.Term] -/
def b97 : SCode :=
  (.seq (.ops [.op (some 6) (.mv (.c (.i .i64 0)))])
  (.seq (.seq (.ops [.op (some 11) (.mv (.t 0)),
      .op (some 12) (.len (.t 11)),
      .op (some 13) (.mv (.c (.i .i64 0)))])
  (.block 0 (.loop (.seq (.ops [.op (some 14) (.bi .lss (.t 13) (.t 12))])
  (.seq (.cond (.t 14) .skip
    (.exit 0))
  (.seq (.block 1 (.seq (.ops [.op (some 15) (.mv (.t 13)),
      .op (some 16) (.ia 7 (.t 11) (.t 13)),
      .op (some 17) (.ld (.t 16) 7 true),
      .op (some 8) (.alm 27 zTm),
      .op (some 7) (.mv (.t 15)),
      .op none (.st (.t 8) 7 (.t 17))])
  (.seq (.seq (.ops [.op (some 18) (.mv (.t 7)),
      .op (some 19) (.mv (.t 1)),
      .op (some 20) (.len (.t 19)),
      .op (some 21) (.bi .geq (.t 18) (.t 20))])
  (.cond (.t 21) (.seq (.ops [.op (some 6) (.mv (.c (.i .i64 1)))])
    .ret)
    .skip))
  (.seq (.ops [.op (some 22) (.mv (.t 1)),
      .op (some 23) (.mv (.t 7)),
      .op (some 24) (.ia 7 (.t 22) (.t 23)),
      .op (some 25) (.ld (.t 24) 7 true),
      .op (some 9) (.alm 27 zTm),
      .op none (.st (.t 9) 7 (.t 25))])
  (.seq (.ops [.op (some 26) (.mv (.t 2)),
      .op (some 27) (.ld (.t 8) 7 true),
      .op (some 28) (.ld (.t 9) 7 true),
      .call (some 29) (.t 26) [(.t 27), (.t 28)],
      .op (some 10) (.mv (.t 29))])
  (.seq (.ops [.op (some 30) (.mv (.t 10)),
      .op (some 31) (.bi .neq (.t 30) (.c (.i .i64 0)))])
  (.cond (.t 31) (.seq (.ops [.op (some 32) (.mv (.t 10)),
        .op (some 6) (.mv (.t 32))])
    .ret)
    .skip)))))))
  (.ops [.op (some 33) (.bi .add (.t 13) (.c (.i .i64 1))),
      .op (some 13) (.mv (.t 33))])))))))
  (.seq (.seq (.ops [.op (some 34) (.mv (.t 0)),
      .op (some 35) (.len (.t 34)),
      .op (some 36) (.mv (.t 1)),
      .op (some 37) (.len (.t 36)),
      .op (some 38) (.bi .lss (.t 35) (.t 37))])
  (.cond (.t 38) (.seq (.ops [.op (some 6) (.mv (.c (.i .i64 (-1))))])
    .ret)
    .skip))
  (.seq (.ops [.op (some 6) (.mv (.c (.i .i64 0)))])
  .ret))))
theorem s97_ok : fnOk Go.Proofs.Try.prog Go.Proofs.Try.f97 ⟨39, [.t 6], b97⟩ = true := by kernel_rfl
def CompareFunc_tm.L1 (cmp3 : Tm → Tm → Option (Int)) (s11 : (List Tm)) (s22 : (List Tm)) : List Tm → Nat → Option (Int)
  | [], x7 => (bif (decide ((List.length s11 : Int) < (List.length s22 : Int))) then some (-1) else some 0)
  | e8 :: rest, x7 => (bif (decide ((List.length s22 : Int) ≤ (x7 : Int))) then some 1 else (Option.bind (ixL s22 (x7 : Int)) fun e9 => (Option.bind (cmp3 e8 e9) fun r10 => (bif (!decide (r10 = 0)) then some r10 else ((CompareFunc_tm.L1 cmp3 s11 s22 rest) (x7 + 1))))))
def CompareFunc_tm (cmp3 : Tm → Tm → Option (Int)) (s11 : (List Tm)) (s22 : (List Tm)) : Option (Int) := (CompareFunc_tm.L1 cmp3 s11 s22 s11 0)
theorem CompareFunc_tm_pc (cmp3 : Tm → Tm → Option (Int)) (s11 : (List Tm)) (s22 : (List Tm)) (gcmp3 : Nat) (firstcmp3 capscmp3 : List AV) (hphi_cmp3 : ∀ z0 z1 r, cmp3 z0 z1 = some r → PC Go.Proofs.Try.prog gcmp3 (firstcmp3 ++ [.agg (tmC z0), .agg (tmC z1)] ++ capscmp3) (.i .i64 r)) (hpu_cmp3 : pureL firstcmp3 = true ∧ pureL capscmp3 = true) (r : Int) (hF : CompareFunc_tm cmp3 s11 s22 = some r) : PC Go.Proofs.Try.prog 97 [.sl false 7 (List.map tmC s11), .sl false 7 (List.map tmC s22), .fn (.func gcmp3) firstcmp3 capscmp3] (.i .i64 r) := by
  obtain ⟨z, hr⟩ : ∃ z, some r = some z := ⟨_, rfl⟩
  refine PC_z Go.Proofs.Try.func97 s97_ok (Nat.le_of_ble_eq_true rfl) fun hf => ?_
  unfold b97 start
  unfold CompareFunc_tm at hF
  try simp -dsimp only [go_sem, hpu_cmp3]
  refine zloop_of (fun m s => ∃ (rest1 : List Tm) (x7 : Nat), List.drop x7 s11 = rest1 ∧ List.length rest1 = m ∧ s = ⟨[(0, .sl false 7 (List.map tmC s11)), (1, .sl false 7 (List.map tmC s22)), (2, .fn (.func gcmp3) firstcmp3 capscmp3), (11, .sl false 7 (List.map tmC s11)), (12, .i .i64 (List.length s11 : Int)), (13, .i .i64 (x7 : Int))], []⟩ ∧ CompareFunc_tm.L1 cmp3 s11 s22 rest1 x7 = some r) (List.length s11) ⟨_, (Wks.ok (by simp -dsimp only [go_sem, hpu_cmp3])), s11, 0, rfl, rfl, rfl, hF⟩ ?_
  clear hF
  rintro _ _ ⟨rest1, x7, hd1, rfl, rfl, hF⟩ hfit
  have h3 : List.length s11 ≤ LIM := by
    have h := hfit.t 0; simp only [e_lk, Nat.reduceBEq, cond_true, cond_false, Fit, FitL, ty_eq, tm_eq, List.length_map] at h; omega
  cases rest1 with
  | nil =>
    have h1 := dn hd1
    unfold CompareFunc_tm.L1 at hF
    try simp -dsimp only [go_sem, hpu_cmp3, h1]
    refine zif_of (fun h5 => ?_) (fun h5 => ?_)
    · skip
      replace hF := cond_t h5 hF
      cases hF
      simp -dsimp only [go_sem, hpu_cmp3, h1, h5]
    · skip
      replace hF := cond_f h5 hF
      cases hF
      simp -dsimp only [go_sem, hpu_cmp3, h1, h5]
  | cons e8 rest1 =>
    obtain ⟨h1, h2, hd1⟩ := dc hd1
    have h4 := wi h1 h3
    unfold CompareFunc_tm.L1 at hF
    try simp -dsimp only [go_sem, hpu_cmp3, h1, h2, h4]
    refine zif_of (fun h6 => ?_) (fun h6 => ?_)
    · skip
      replace hF := cond_t h6 hF
      cases hF
      simp -dsimp only [go_sem, hpu_cmp3, h1, h2, h4, h6]
    · skip
      replace hF := cond_f h6 hF
      obtain ⟨e9, h7, hF⟩ := bind_of hF hr
      obtain ⟨h8, h7⟩ := ixL_of h7
      simp only [Int.toNat_natCast] at h7
      obtain ⟨r10, h9, hF⟩ := bind_of hF hr
      try simp -dsimp only [go_sem, hpu_cmp3, h1, h2, h4, h6, h7]
      refine call_ok (hphi_cmp3 e8 e9 _ h9) (by simp -dsimp only [go_sem, hpu_cmp3, h1, h2, h4, h6, h7]) ?_
      try simp -dsimp only [go_sem, hpu_cmp3, h1, h2, h4, h6, h7]
      refine zif_of (fun h10 => ?_) (fun h10 => ?_)
      · skip
        replace hF := cond_t h10 hF
        cases hF
        simp -dsimp only [go_sem, hpu_cmp3, h1, h2, h4, h6, h7, h10]
      · skip
        replace hF := cond_f h10 hF
        try simp -dsimp only [go_sem, hpu_cmp3, h1, h2, h4, h6, h7, h10]
        exact ⟨List.length rest1, _, Nat.lt_succ_self _, (Wks.ok (by simp -dsimp only [go_sem, hpu_cmp3, h1, h2, h4, h6, h7, h10])), rest1, x7 + 1, hd1, rfl, rfl, hF⟩
/-- sequent/terms.Compare -/
def b61 : SCode :=
  (.seq (.ops [.op (some 2) (.bx (.t 0)),
      .op (some 3) (.bx (.t 1)),
      .op (some 4) (.mv (.c (.i .i64 0)))])
  (.seq (.seq (.ops [.op (some 8) (.fa (.t 2) 0),
      .op (some 9) (.ld (.t 8) 1 false),
      .op (some 10) (.fa (.t 3) 0),
      .op (some 11) (.ld (.t 10) 1 false),
      .call (some 12) (.c (.fn (.func 93) [] [])) [(.t 9), (.t 11)],
      .op (some 5) (.mv (.t 12))])
  (.seq (.ops [.op (some 13) (.mv (.t 5)),
      .op (some 14) (.bi .neq (.t 13) (.c (.i .i64 0)))])
  (.cond (.t 14) (.seq (.ops [.op (some 15) (.mv (.t 5)),
        .op (some 4) (.mv (.t 15))])
    .ret)
    .skip)))
  (.seq (.seq (.ops [.op (some 16) (.fa (.t 2) 1),
      .op (some 17) (.ld (.t 16) 1 false),
      .op (some 18) (.fa (.t 3) 1),
      .op (some 19) (.ld (.t 18) 1 false),
      .call (some 20) (.c (.fn (.func 94) [] [])) [(.t 17), (.t 19)],
      .op (some 6) (.mv (.t 20))])
  (cutS (.ops [.op (some 21) (.mv (.t 6)),
      .op (some 22) (.bi .neq (.t 21) (.c (.i .i64 0))),
      .op (some 23) (.mv (.t 22)),
      .gd 23 true (some 24) (.op (some 24) (.fa (.t 2) 0)),
      .gd 23 true (some 25) (.op (some 25) (.ld (.t 24) 1 false)),
      .gd 23 true (some 26) (.op (some 26) (.bi .neq (.t 25) (.c (.i .u8 5)))),
      .op (some 27) (.pk (.t 23) (.t 26) (.c (.b false)))])
  (.cond (.t 27) (.seq (.ops [.op (some 28) (.mv (.t 6)),
        .op (some 4) (.mv (.t 28))])
    .ret)
    .skip)))
  (.seq (.seq (.draw [.op (some 29) (.fa (.t 2) 2),
      .op (some 30) (.ldi (.t 29) 3 true),
      .op (some 31) (.fa (.t 3) 2),
      .op (some 32) (.ldi (.t 31) 3 true),
      .call (some 33) (.c (.fn (.func 86) [] [])) [(.t 30), (.t 32)],
      .op (some 34) (.fa (.t 2) 5),
      .op (some 35) (.ldi (.t 34) 1 false),
      .op (some 36) (.fa (.t 3) 5),
      .op (some 37) (.ldi (.t 36) 1 false),
      .call (some 38) (.c (.fn (.func 96) [] [])) [(.t 35), (.t 37)],
      .op (some 39) (.fa (.t 2) 6),
      .op (some 40) (.ldi (.t 39) 1 false),
      .op (some 41) (.len (.t 40)),
      .op (some 42) (.fa (.t 3) 6),
      .op (some 43) (.ldi (.t 42) 1 false),
      .op (some 44) (.len (.t 43)),
      .call (some 45) (.c (.fn (.func 96) [] [])) [(.t 41), (.t 44)],
      .op (some 46) (.bsl 1 [(.t 33), (.t 38), (.t 45)]),
      .call (some 47) (.c (.fn (.func 95) [] [])) [(.t 46)],
      .op (some 7) (.mv (.t 47))])
  (.seq (.ops [.op (some 48) (.mv (.t 7)),
      .op (some 49) (.bi .neq (.t 48) (.c (.i .i64 0)))])
  (.cond (.t 49) (.seq (.ops [.op (some 50) (.mv (.t 7)),
        .op (some 4) (.mv (.t 50))])
    .ret)
    .skip)))
  (.seq (.ops [.op (some 51) (.fa (.t 2) 6),
      .op (some 52) (.ld (.t 51) 1 false),
      .op (some 53) (.fa (.t 3) 6),
      .op (some 54) (.ld (.t 53) 1 false),
      .call (some 55) (.c (.fn (.func 97) [] [])) [(.t 52), (.t 54), (.c (.fn (.func 61) [] []))],
      .op (some 4) (.mv (.t 55))])
  .ret)))))
theorem s61_ok : fnOk Go.Proofs.Try.prog Go.Proofs.Try.f61 ⟨56, [.t 4], b61⟩ = true := by kernel_rfl
def terms_Compare.body (self : Tm → Tm → Option (Int)) (a1 : Tm) (b2 : Tm) : Option (Int) := (bif (!decide ((cmp_u8 a1.k b2.k) = 0)) then some (cmp_u8 a1.k b2.k) else (bif ((!decide ((strings_Compare a1.n b2.n) = 0)) && (!decide (a1.k = 5))) then some (strings_Compare a1.n b2.n) else (bif (!decide ((cmp_Or [(cmpTy a1.y b2.y), (cmp_int a1.i b2.i), (cmp_int (List.length a1.s : Int) (List.length b2.s : Int))]) = 0)) then some (cmp_Or [(cmpTy a1.y b2.y), (cmp_int a1.i b2.i), (cmp_int (List.length a1.s : Int) (List.length b2.s : Int))]) else (Option.bind (CompareFunc_tm self a1.s b2.s) fun r3 => some r3))))
theorem terms_Compare.body_pc (self : Tm → Tm → Option (Int)) (a1 : Tm) (b2 : Tm) (hself : ∀ a0 a1 r, self a0 a1 = some r → PC Go.Proofs.Try.prog 61 [.agg (tmC a0), .agg (tmC a1)] (.i .i64 r)) (r : Int) (hF : terms_Compare.body self a1 b2 = some r) : PC Go.Proofs.Try.prog 61 [.agg (tmC a1), .agg (tmC b2)] (.i .i64 r) := by
  obtain ⟨z, hr⟩ : ∃ z, some r = some z := ⟨_, rfl⟩
  refine PC_z Go.Proofs.Try.func61 s61_ok (Nat.le_of_ble_eq_true rfl) fun hf => ?_
  unfold b61 start
  unfold terms_Compare.body at hF
  try simp -dsimp only [go_sem]
  refine call_ok (cmp_u8_pc a1.k b2.k ) (by simp -dsimp only [go_sem]) ?_
  try simp -dsimp only [go_sem]
  refine zif_of (fun h1 => ?_) (fun h1 => ?_)
  · skip
    replace hF := cond_t h1 hF
    cases hF
    simp -dsimp only [go_sem, h1]
  · skip
    replace hF := cond_f h1 hF
    try simp -dsimp only [go_sem, h1]
    refine call_ok (strings_Compare_pc a1.n b2.n ) (by simp -dsimp only [go_sem, h1]) ?_
    try simp -dsimp only [go_sem, h1]
    refine zcut_of (fun s => s = ⟨[(2, .ip (tmC a1)), (3, .ip (tmC b2)), (6, .i .i64 (strings_Compare a1.n b2.n)), (27, .b ((!decide ((strings_Compare a1.n b2.n) = 0)) && (!decide (a1.k = 5))))], []⟩) ?_ ?_
    · skip
      try simp -dsimp only [go_sem, h1]
      refine zif_of (fun h2 => ?_) (fun h2 => ?_)
      · skip
        try simp -dsimp only [go_sem, h1, h2]
        exact ⟨_, (Wks.ok (by simp -dsimp only [go_sem, h1, h2])), rfl⟩
      · skip
        try simp -dsimp only [go_sem, h1, h2]
        exact ⟨_, (Wks.ok (by simp -dsimp only [go_sem, h1, h2])), rfl⟩
    rintro _ rfl hfit
    try simp -dsimp only [go_sem, h1]
    refine zif_of (fun h3 => ?_) (fun h3 => ?_)
    · skip
      replace hF := cond_t h3 hF
      cases hF
      simp -dsimp only [go_sem, h1, h3]
    · skip
      replace hF := cond_f h3 hF
      try simp -dsimp only [go_sem, h1, h3]
      refine call_ok (cmpTy_pc2 a1.y b2.y ) (by simp -dsimp only [go_sem, h1, h3]) ?_
      try simp -dsimp only [go_sem, h1, h3]
      refine call_ok (cmp_int_pc a1.i b2.i ) (by simp -dsimp only [go_sem, h1, h3]) ?_
      try simp -dsimp only [go_sem, h1, h3]
      refine call_ok (cmp_int_pc (List.length a1.s : Int) (List.length b2.s : Int) ) (by simp -dsimp only [go_sem, h1, h3]) ?_
      try simp -dsimp only [go_sem, h1, h3]
      refine call_ok (cmp_Or_pc [(cmpTy a1.y b2.y), (cmp_int a1.i b2.i), (cmp_int (List.length a1.s : Int) (List.length b2.s : Int))] ) (by simp -dsimp only [go_sem, h1, h3]) ?_
      try simp -dsimp only [go_sem, h1, h3]
      refine zif_of (fun h4 => ?_) (fun h4 => ?_)
      · skip
        replace hF := cond_t h4 hF
        cases hF
        simp -dsimp only [go_sem, h1, h3, h4]
      · skip
        replace hF := cond_f h4 hF
        obtain ⟨r3, h5, hF⟩ := bind_of hF hr
        try simp -dsimp only [go_sem, h1, h3, h4]
        refine call_ok (CompareFunc_tm_pc self a1.s b2.s _ [] [] hself ⟨rfl, rfl⟩ _ h5) (by simp -dsimp only [go_sem, h1, h3, h4]) ?_
        cases hF
        simp -dsimp only [go_sem, h1, h3, h4]
def terms_Compare.fu : Nat → Tm → Tm → Option (Int)
  | 0 => fun _ _ => none
  | n + 1 => terms_Compare.body (terms_Compare.fu n)
theorem terms_Compare.fu_pc : ∀ (n : Nat) (a0 : Tm) (a1 : Tm) (r : Int), terms_Compare.fu n a0 a1 = some r → PC Go.Proofs.Try.prog 61 [.agg (tmC a0), .agg (tmC a1)] (.i .i64 r)
  | 0, a0, a1, r, h => by cases h
  | n + 1, a0, a1, r, h => terms_Compare.body_pc (terms_Compare.fu n) a0 a1 (terms_Compare.fu_pc n) r h
theorem CompareFunc_tm_ok {cmp : Tm → Tm → Option Int} {f : Tm → Tm → Int} (s1 s2 : List Tm) (hl : s1.length = s2.length) (hc : ∀ x ∈ s1, ∀ y, cmp x y = some (f x y)) : CompareFunc_tm cmp s1 s2 = some (lexL f s1 s2) := by
  have key : ∀ (rest : List Tm) (i : Nat), i + rest.length = s2.length → (∀ x ∈ rest, ∀ y, cmp x y = some (f x y)) → CompareFunc_tm.L1 cmp s1 s2 rest i = some (lexL f rest (s2.drop i)) := by
    intro rest
    induction rest with
    | nil => intro i _ _; simp [CompareFunc_tm.L1, lexL, hl]
    | cons x l ih =>
      intro i hl hm
      obtain ⟨y, h1, h2⟩ := drop_get (l := s2) (i := i) (by simp at hl; omega)
      have h3 : ¬ (s2.length : Int) ≤ i := by simp at hl; omega
      simp only [CompareFunc_tm.L1, ixL_nat, h1, Option.bind_some, hm x (List.mem_cons_self ..), h2, lexL]
      rw [ih (i + 1) (by simp at hl; omega) (fun z hz => hm z (List.mem_cons_of_mem _ hz))]
      by_cases h : f x y = 0 <;> simp [h, h3]
  unfold CompareFunc_tm
  rw [key s1 0 (by omega) hc]; rfl
theorem terms_Compare_ok (t u : Tm) (self : Tm → Tm → Option Int) (hs : ∀ x ∈ t.s, ∀ y, self x y = some (cmpTm x y)) : terms_Compare.body self t u = some (cmpTm t u) := by
  unfold terms_Compare.body
  simp only [cmp_Or_eq, cmp_int_eq, cmp_u8_eq, strings_Compare, orL]
  rw [cmpTm_eq]
  by_cases h3 : t.s.length = u.s.length
  · rw [CompareFunc_tm_ok (f := cmpTm) t.s u.s h3 hs]
    simp only [Bool.cond_eq_ite, Option.bind_some]
    unfold orI
    grind
  · have h4 : cmpI (t.s.length : Int) (u.s.length : Int) ≠ 0 := by unfold cmpI; grind
    generalize CompareFunc_tm _ t.s u.s = z
    unfold orI
    simp only [Bool.cond_eq_ite]
    grind
theorem cmpTm_pc2 : ∀ t u : Tm, PC Go.Proofs.Try.prog 61 [.agg (tmC t), .agg (tmC u)] (.i .i64 (cmpTm t u)) :=
  Tm.ind fun t ih u => terms_Compare.body_pc _ t u (fun x y r h => by obtain ⟨h1, rfl⟩ := og_of h; exact ih x h1 y) _ (terms_Compare_ok t u (fun x y => og (x ∈ t.s) (cmpTm x y)) (fun x h y => og_pos h))
/-- sequent/terms.Same -/
def b62 : SCode :=
  (.seq (.ops [.op (some 2) (.bx (.t 0)),
      .op (some 3) (.bx (.t 1)),
      .op (some 4) (.mv (.c (.b false)))])
  (.seq (.ops [.op (some 5) (.ld (.t 2) 7 true),
      .op (some 6) (.ld (.t 3) 7 true),
      .call (some 7) (.c (.fn (.func 61) [] [])) [(.t 5), (.t 6)],
      .op (some 8) (.bi .eql (.t 7) (.c (.i .i64 0))),
      .op (some 4) (.mv (.t 8))])
  .ret))
theorem s62_ok : fnOk Go.Proofs.Try.prog Go.Proofs.Try.f62 ⟨9, [.t 4], b62⟩ = true := by kernel_rfl
def terms_Same (a1 : Tm) (b2 : Tm) : Bool := (decide ((cmpTm a1 b2) = 0))
theorem terms_Same_pc (a1 : Tm) (b2 : Tm) : PC Go.Proofs.Try.prog 62 [.agg (tmC a1), .agg (tmC b2)] (.b (terms_Same a1 b2)) := by
  obtain ⟨r, hF⟩ : ∃ r, terms_Same a1 b2 = r := ⟨_, rfl⟩
  rw [hF]
  refine PC_z Go.Proofs.Try.func62 s62_ok (Nat.le_of_ble_eq_true rfl) fun hf => ?_
  unfold b62 start
  unfold terms_Same at hF
  try simp -dsimp only [go_sem]
  refine call_ok (cmpTm_pc2 a1 b2 ) (by simp -dsimp only [go_sem]) ?_
  subst hF
  simp -dsimp only [go_sem]
/-- sequent/sequentref02.count -/
def b56 : SCode :=
  (.seq (.ops [.op (some 3) (.bx (.t 0)),
      .op (some 6) (.mv (.c (.i .i64 0)))])
  (.seq (cutS (.ops [.op (some 8) (.mv (.t 2)),
      .op (some 9) (.bi .eql (.t 8) (.c (.i .i64 0))),
      .op (some 10) (.mv (.t 9)),
      .gd 10 false (some 11) (.op (some 11) (.fa (.t 3) 2)),
      .gd 10 false (some 12) (.op (some 12) (.ld (.t 11) 3 true)),
      .gd 10 false (some 13) (.call (some 13) (.c (.fn (.func 90) [] [])) [(.t 12)]),
      .op (some 14) (.pk (.t 10) (.c (.b true)) (.t 13))])
  (.cond (.t 14) (.seq (.ops [.op (some 6) (.mv (.c (.i .i64 0)))])
    .ret)
    .skip))
  (.seq (.ops [.op (some 15) (.mv (.t 1)),
      .op (some 16) (.bi .sub (.t 15) (.c (.i .i64 1))),
      .op (some 17) (.fa (.t 3) 1),
      .op (some 18) (.ld (.t 17) 1 false),
      .op (some 19) (.lens (.t 18)),
      .op (some 20) (.bi .quo (.t 19) (.c (.i .i64 100))),
      .op (some 21) (.bi .sub (.t 16) (.t 20)),
      .op (some 1) (.mv (.t 21))])
  (.seq (.seq (.ops [.op (some 7) (.mv (.c (.i .i64 0)))])
  (.block 0 (.loop (.seq (cutS (.ops [.op (some 22) (.mv (.t 7)),
      .op (some 23) (.fa (.t 3) 6),
      .op (some 24) (.ld (.t 23) 1 false),
      .op (some 25) (.len (.t 24)),
      .op (some 26) (.bi .lss (.t 22) (.t 25)),
      .op (some 27) (.mv (.t 26)),
      .gd 27 true (some 28) (.op (some 28) (.mv (.t 1))),
      .gd 27 true (some 29) (.op (some 29) (.bi .gtr (.t 28) (.c (.i .i64 0)))),
      .op (some 30) (.pk (.t 27) (.t 29) (.c (.b false)))])
  (.cond (.t 30) .skip
    (.exit 0)))
  (.seq (.block 1 (.ops [.op (some 33) (.fa (.t 3) 6),
      .op (some 34) (.ld (.t 33) 1 false),
      .op (some 35) (.mv (.t 7)),
      .op (some 36) (.ia 7 (.t 34) (.t 35)),
      .op (some 37) (.ld (.t 36) 7 true),
      .op (some 38) (.mv (.t 1)),
      .op (some 39) (.mv (.t 2)),
      .op (some 40) (.bi .sub (.t 39) (.c (.i .i64 1))),
      .call (some 41) (.c (.fn (.func 56) [] [])) [(.t 37), (.t 38), (.t 40)],
      .op (some 1) (.mv (.t 41))]))
  (.ops [.op (some 31) (.mv (.t 7)),
      .op (some 32) (.bi .add (.t 31) (.c (.i .i64 1))),
      .op (some 7) (.mv (.t 32))]))))))
  (.seq (.ops [.op (some 42) (.mv (.t 1)),
      .op (some 6) (.mv (.t 42))])
  .ret)))))
theorem s56_ok : fnOk Go.Proofs.Try.prog Go.Proofs.Try.f56 ⟨43, [.t 6], b56⟩ = true := by kernel_rfl
def ref02_count.L2 (self : Tm → Int → Int → Option (Int)) (depth3 : Int) (t1 : Tm) : List Tm → Nat → Int → Option (Int)
  | [], i9, left8 => some left8
  | e10 :: rest, i9, left8 => (bif (decide (0 < left8)) then (Option.bind (self e10 left8 (IntKind.i64.wrap (depth3 - 1))) fun r11 => ((ref02_count.L2 self depth3 t1 rest) (i9 + 1) r11)) else some left8)
def ref02_count.J1 (self : Tm → Int → Int → Option (Int)) (left2 : Int) (depth3 : Int) (t1 : Tm) (x5 : Bool) : Option (Int) := (bif x5 then some 0 else (ref02_count.L2 self depth3 t1 t1.s 0 (IntKind.i64.wrap ((IntKind.i64.wrap (left2 - 1)) - (IntKind.i64.wrap (Int.tdiv (ByteArray.size t1.n : Int) 100))))))
def ref02_count.body (self : Tm → Int → Int → Option (Int)) (t1 : Tm) (left2 : Int) (depth3 : Int) : Option (Int) := (bif (decide (depth3 = 0)) then (ref02_count.J1 self left2 depth3 t1 true) else (Option.bind (ref01_Great t1.y) fun r4 => (ref02_count.J1 self left2 depth3 t1 r4)))
theorem ref02_count.body_pc (self : Tm → Int → Int → Option (Int)) (t1 : Tm) (left2 : Int) (depth3 : Int) (hself : ∀ a0 a1 a2 r, self a0 a1 a2 = some r → PC Go.Proofs.Try.prog 56 [.agg (tmC a0), .i .i64 a1, .i .i64 a2] (.i .i64 r)) (r : Int) (hF : ref02_count.body self t1 left2 depth3 = some r) : PC Go.Proofs.Try.prog 56 [.agg (tmC t1), .i .i64 left2, .i .i64 depth3] (.i .i64 r) := by
  obtain ⟨z, hr⟩ : ∃ z, some r = some z := ⟨_, rfl⟩
  refine PC_z Go.Proofs.Try.func56 s56_ok (Nat.le_of_ble_eq_true rfl) fun hf => ?_
  unfold b56 start
  unfold ref02_count.body at hF
  try simp -dsimp only [go_sem]
  refine zcut_of (fun s => ∃ (x5 : Bool), s = ⟨[(1, .i .i64 left2), (2, .i .i64 depth3), (3, .ip (tmC t1)), (14, .b x5)], []⟩ ∧ ref02_count.J1 self left2 depth3 t1 x5 = some r) ?_ ?_
  · skip
    try simp -dsimp only [go_sem]
    refine zif_of (fun h2 => ?_) (fun h2 => ?_)
    · skip
      replace hF := cond_t h2 hF
      try simp -dsimp only [go_sem, h2]
      exact ⟨_, (Wks.ok (by simp -dsimp only [go_sem, h2])), true, rfl, hF⟩
    · skip
      replace hF := cond_f h2 hF
      obtain ⟨r4, h3, hF⟩ := bind_of hF hr
      try simp -dsimp only [go_sem, h2]
      refine call_ok (ref01_Great_pc t1.y  _ h3) (by simp -dsimp only [go_sem, h2]) ?_
      try simp -dsimp only [go_sem, h2]
      exact ⟨_, (Wks.ok (by simp -dsimp only [go_sem, h2])), r4, rfl, hF⟩
  clear hF
  rintro _ ⟨x5, rfl, hF⟩ hfit
  unfold ref02_count.J1 at hF
  try simp -dsimp only [go_sem]
  refine zif_of (fun h4 => ?_) (fun h4 => ?_)
  · skip
    replace hF := cond_t h4 hF
    cases hF
    simp -dsimp only [go_sem, h4]
  · skip
    replace hF := cond_f h4 hF
    try simp -dsimp only [go_sem, h4]
    refine zloop_of (fun m s => ∃ (rest2 : List Tm) (i9 : Nat) (left8 : Int), List.drop i9 t1.s = rest2 ∧ List.length rest2 = m ∧ s = ⟨[(1, .i .i64 left8), (2, .i .i64 depth3), (3, .ip (tmC t1)), (7, .i .i64 (i9 : Int))], []⟩ ∧ ref02_count.L2 self depth3 t1 rest2 i9 left8 = some r) (List.length t1.s) ⟨_, (Wks.ok (by simp -dsimp only [go_sem, h4])), t1.s, 0, (IntKind.i64.wrap ((IntKind.i64.wrap (left2 - 1)) - (IntKind.i64.wrap (Int.tdiv (ByteArray.size t1.n : Int) 100)))), rfl, rfl, rfl, hF⟩ ?_
    clear hF
    rintro _ _ ⟨rest2, i9, left8, hd2, rfl, rfl, hF⟩ hfit
    have h7 : List.length t1.s ≤ LIM := by
      have h := hfit.t 3; simp only [e_lk, Nat.reduceBEq, cond_true, cond_false, Fit, FitL, ty_eq, tm_eq, List.length_map] at h; omega
    cases rest2 with
    | nil =>
      have h5 := dn hd2
      unfold ref02_count.L2 at hF
      try simp -dsimp only [go_sem, h4, h5]
      refine zcut_of (fun s => s = ⟨[(1, .i .i64 left8), (2, .i .i64 depth3), (3, .ip (tmC t1)), (7, .i .i64 (i9 : Int)), (30, .b false)], []⟩) ?_ ?_
      · skip
        try simp -dsimp only [go_sem, h4, h5]
        exact ⟨_, (Wks.ok (by simp -dsimp only [go_sem, h4, h5])), rfl⟩
      rintro _ rfl hfit
      cases hF
      simp -dsimp only [go_sem, h4, h5]
    | cons e10 rest2 =>
      obtain ⟨h5, h6, hd2⟩ := dc hd2
      have h8 := wi h5 h7
      unfold ref02_count.L2 at hF
      try simp -dsimp only [go_sem, h4, h5, h6, h8]
      refine zcut_of (fun s => s = ⟨[(1, .i .i64 left8), (2, .i .i64 depth3), (3, .ip (tmC t1)), (7, .i .i64 (i9 : Int)), (28, .i .i64 left8), (29, .b (decide (0 < left8))), (30, .b (decide (0 < left8)))], []⟩) ?_ ?_
      · skip
        try simp -dsimp only [go_sem, h4, h5, h6, h8]
        exact ⟨_, (Wks.ok (by simp -dsimp only [go_sem, h4, h5, h6, h8])), rfl⟩
      rintro _ rfl hfit
      try simp -dsimp only [go_sem, h4, h5, h6, h8]
      refine zif_of (fun h9 => ?_) (fun h9 => ?_)
      · skip
        replace hF := cond_t h9 hF
        obtain ⟨r11, h10, hF⟩ := bind_of hF hr
        try simp -dsimp only [go_sem, h4, h5, h6, h8, h9]
        refine call_ok (hself e10 left8 (IntKind.i64.wrap (depth3 - 1))  _ h10) (by simp -dsimp only [go_sem, h4, h5, h6, h8, h9]) ?_
        try simp -dsimp only [go_sem, h4, h5, h6, h8, h9]
        exact ⟨List.length rest2, _, Nat.lt_succ_self _, (Wks.ok (by simp -dsimp only [go_sem, h4, h5, h6, h8, h9])), rest2, i9 + 1, r11, hd2, rfl, rfl, hF⟩
      · skip
        replace hF := cond_f h9 hF
        cases hF
        simp -dsimp only [go_sem, h4, h5, h6, h8, h9]
def ref02_count.fu : Nat → Tm → Int → Int → Option (Int)
  | 0 => fun _ _ _ => none
  | n + 1 => ref02_count.body (ref02_count.fu n)
theorem ref02_count.fu_pc : ∀ (n : Nat) (a0 : Tm) (a1 : Int) (a2 : Int) (r : Int), ref02_count.fu n a0 a1 a2 = some r → PC Go.Proofs.Try.prog 56 [.agg (tmC a0), .i .i64 a1, .i .i64 a2] (.i .i64 r)
  | 0, a0, a1, a2, r, h => by cases h
  | n + 1, a0, a1, a2, r, h => ref02_count.body_pc (ref02_count.fu n) a0 a1 a2 (ref02_count.fu_pc n) r h
noncomputable def cntTo (t : Tm) (left d : Int) : Option Int := og (cntPT t left d) (cntT t left d)
theorem ref02_count_ok (t : Tm) (left d : Int) (self : Tm → Int → Int → Option Int) (hs : ∀ x ∈ t.s, ∀ l e, cntPT x l e → self x l e = some (cntT x l e)) (h : cntPT t left d) : ref02_count.body self t left d = some (cntT t left d) := by
  obtain ⟨hf, h1, h2, h3, h4⟩ := h
  rw [fitT_eq] at hf
  have hr := tdiv_rng t.n.size hf.2.1
  have key : ∀ (rest : List Tm) (i : Nat) (l : Int), (∀ x ∈ rest, x ∈ t.s) → fitTs rest → -2 ^ 40 ≤ l → l ≤ 2 ^ 40 → 1 ≤ d → ref02_count.L2 self d t rest i l = some (cntTs rest l (d - 1)) := by
    intro rest
    induction rest with
    | nil => intro i l _ _ _ _ _; simp [ref02_count.L2, cntTs]
    | cons x r ih =>
      intro i l hm hf k1 k2 k3
      simp only [fitTs] at hf
      simp only [ref02_count.L2, cntTs]
      by_cases hl : 0 < l
      · have hrg := cntT_rng x l (d - 1) hf.1 hl
        rw [wr64 (by omega) (by omega), hs x (hm x (List.mem_cons_self ..)) _ _ ⟨hf.1, hl, k2, by omega, by omega⟩]
        simp only [Option.bind_some, hl, decide_true, cond_true, if_true]
        exact ih _ _ (fun z hz => hm z (List.mem_cons_of_mem _ hz)) hf.2 (by omega) (by omega) k3
      · simp [hl]
  unfold ref02_count.body ref02_count.J1
  rw [cntT_eq, ref01_Great_eq _ hf.2.2.1]
  by_cases hd : d = 0
  · simp [hd]
  · have k := fun l => key t.s 0 l (fun _ h => h) hf.2.2.2.2.2
    cases hg : greatY t.y
    · simp only [hd, decide_false, cond_false, Option.bind_some, false_or, Bool.false_eq_true, if_false]
      rw [wr64 (n := Int.tdiv _ _) (by omega) (by omega), wr64 (n := left - 1) (by omega) (by omega), wr64 (by omega) (by omega)]
      exact k _ (by omega) (by omega) (by omega)
    · simp [hd]
theorem cntTo_pc : ∀ (t : Tm) (left d r : Int), cntTo t left d = some r → PC Go.Proofs.Try.prog 56 [.agg (tmC t), .i .i64 left, .i .i64 d] (.i .i64 r) :=
  Tm.ind fun t ih left d r hr => by
    obtain ⟨hb, rfl⟩ := og_of hr
    refine ref02_count.body_pc (fun x l e => og (x ∈ t.s ∧ cntPT x l e) (cntT x l e)) t left d (fun x l e r h => ?_) _ (ref02_count_ok t left d _ (fun x h l e k => og_pos ⟨h, k⟩) hb)
    obtain ⟨h1, rfl⟩ := og_of h
    exact ih x h1.1 _ _ _ (og_pos h1.2)
/-- sequent/sequentref02.Size -/
def b91 : SCode :=
  (.seq (.ops [.op (some 1) (.bx (.t 0)),
      .op (some 2) (.mv (.c (.i .i64 0)))])
  (.seq (.ops [.op (some 3) (.mv (.c (.i .i64 1)))])
  (.seq (.seq (.ops [.op (some 4) (.mv (.c (.i .i64 0)))])
  (.block 0 (.loop (.seq (.seq (.ops [.op (some 5) (.mv (.t 4)),
      .op (some 6) (.fa (.t 1) 6),
      .op (some 7) (.ld (.t 6) 1 false),
      .op (some 8) (.len (.t 7)),
      .op (some 9) (.bi .lss (.t 5) (.t 8))])
  (.cond (.t 9) .skip
    (.exit 0)))
  (.seq (.block 1 (.ops [.op (some 12) (.mv (.t 3)),
      .op (some 13) (.fa (.t 1) 6),
      .op (some 14) (.ld (.t 13) 1 false),
      .op (some 15) (.mv (.t 4)),
      .op (some 16) (.ia 7 (.t 14) (.t 15)),
      .op (some 17) (.ld (.t 16) 7 true),
      .call (some 18) (.c (.fn (.func 91) [] [])) [(.t 17)],
      .op (some 19) (.bi .add (.t 12) (.t 18)),
      .op (some 3) (.mv (.t 19))]))
  (.ops [.op (some 10) (.mv (.t 4)),
      .op (some 11) (.bi .add (.t 10) (.c (.i .i64 1))),
      .op (some 4) (.mv (.t 11))]))))))
  (.seq (.ops [.op (some 20) (.mv (.t 3)),
      .op (some 2) (.mv (.t 20))])
  .ret))))
theorem s91_ok : fnOk Go.Proofs.Try.prog Go.Proofs.Try.f91 ⟨21, [.t 2], b91⟩ = true := by kernel_rfl
def ref02_Size.L1 (self : Tm → Option (Int)) (t1 : Tm) : List Tm → Nat → Int → Option (Int)
  | [], i5, n4 => some n4
  | e6 :: rest, i5, n4 => (Option.bind (self e6) fun r7 => ((ref02_Size.L1 self t1 rest) (i5 + 1) (IntKind.i64.wrap (n4 + r7))))
def ref02_Size.body (self : Tm → Option (Int)) (t1 : Tm) : Option (Int) := (ref02_Size.L1 self t1 t1.s 0 1)
theorem ref02_Size.body_pc (self : Tm → Option (Int)) (t1 : Tm) (hself : ∀ a0 r, self a0 = some r → PC Go.Proofs.Try.prog 91 [.agg (tmC a0)] (.i .i64 r)) (r : Int) (hF : ref02_Size.body self t1 = some r) : PC Go.Proofs.Try.prog 91 [.agg (tmC t1)] (.i .i64 r) := by
  obtain ⟨z, hr⟩ : ∃ z, some r = some z := ⟨_, rfl⟩
  refine PC_z Go.Proofs.Try.func91 s91_ok (Nat.le_of_ble_eq_true rfl) fun hf => ?_
  unfold b91 start
  unfold ref02_Size.body at hF
  try simp -dsimp only [go_sem]
  refine zloop_of (fun m s => ∃ (rest1 : List Tm) (i5 : Nat) (n4 : Int), List.drop i5 t1.s = rest1 ∧ List.length rest1 = m ∧ s = ⟨[(1, .ip (tmC t1)), (3, .i .i64 n4), (4, .i .i64 (i5 : Int))], []⟩ ∧ ref02_Size.L1 self t1 rest1 i5 n4 = some r) (List.length t1.s) ⟨_, (Wks.ok (by simp -dsimp only [go_sem])), t1.s, 0, 1, rfl, rfl, rfl, hF⟩ ?_
  clear hF
  rintro _ _ ⟨rest1, i5, n4, hd1, rfl, rfl, hF⟩ hfit
  have h3 : List.length t1.s ≤ LIM := by
    have h := hfit.t 1; simp only [e_lk, Nat.reduceBEq, cond_true, cond_false, Fit, FitL, ty_eq, tm_eq, List.length_map] at h; omega
  cases rest1 with
  | nil =>
    have h1 := dn hd1
    unfold ref02_Size.L1 at hF
    cases hF
    simp -dsimp only [go_sem, h1]
  | cons e6 rest1 =>
    obtain ⟨h1, h2, hd1⟩ := dc hd1
    have h4 := wi h1 h3
    unfold ref02_Size.L1 at hF
    obtain ⟨r7, h5, hF⟩ := bind_of hF hr
    try simp -dsimp only [go_sem, h1, h2, h4]
    refine call_ok (hself e6  _ h5) (by simp -dsimp only [go_sem, h1, h2, h4]) ?_
    try simp -dsimp only [go_sem, h1, h2, h4]
    exact ⟨List.length rest1, _, Nat.lt_succ_self _, (Wks.ok (by simp -dsimp only [go_sem, h1, h2, h4])), rest1, i5 + 1, (IntKind.i64.wrap (n4 + r7)), hd1, rfl, rfl, hF⟩
def ref02_Size.fu : Nat → Tm → Option (Int)
  | 0 => fun _ => none
  | n + 1 => ref02_Size.body (ref02_Size.fu n)
theorem ref02_Size.fu_pc : ∀ (n : Nat) (a0 : Tm) (r : Int), ref02_Size.fu n a0 = some r → PC Go.Proofs.Try.prog 91 [.agg (tmC a0)] (.i .i64 r)
  | 0, a0, r, h => by cases h
  | n + 1, a0, r, h => ref02_Size.body_pc (ref02_Size.fu n) a0 (ref02_Size.fu_pc n) r h
noncomputable def szTo (t : Tm) : Option Int := og (bkT t ≤ 2 ^ 40) (szT t : Int)
theorem ref02_Size_ok (t : Tm) (self : Tm → Option Int) (hs : ∀ x ∈ t.s, self x = some (szT x : Int)) (hb : bkT t ≤ 2 ^ 40) : ref02_Size.body self t = some (szT t : Int) := by
  have hsz := szT_bk t
  have h1 := szT_eq t
  have key : ∀ (rest : List Tm) (i : Nat) (n : Int), (∀ x ∈ rest, x ∈ t.s) → 0 ≤ n → n + szTs rest ≤ 2 ^ 40 → ref02_Size.L1 self t rest i n = some (n + szTs rest) := by
    intro rest
    induction rest with
    | nil => intro i n _ _ _; simp [ref02_Size.L1, szTs]
    | cons x l ih =>
      intro i n hm h1 h2
      simp only [szTs] at h2
      simp only [ref02_Size.L1, hs x (hm x (List.mem_cons_self ..)), Option.bind_some, szTs]
      rw [wr64 (by omega) (by omega), ih _ _ (fun z hz => hm z (List.mem_cons_of_mem _ hz)) (by omega) (by omega)]
      congr 1; omega
  unfold ref02_Size.body
  rw [key t.s 0 1 (fun _ h => h) (by omega) (by omega)]
  congr 1; omega
theorem szTo_pc : ∀ (t : Tm) (r : Int), szTo t = some r → PC Go.Proofs.Try.prog 91 [.agg (tmC t)] (.i .i64 r) :=
  Tm.ind fun t ih r hr => by
    obtain ⟨hb, rfl⟩ := og_of hr
    refine ref02_Size.body_pc (fun x => og (x ∈ t.s) (szT x : Int)) t (fun x r h => ?_) _ (ref02_Size_ok t _ (fun x h => og_pos h) hb)
    obtain ⟨h1, rfl⟩ := og_of h
    have := bkT_sub h1
    exact ih x h1 _ (og_pos (by omega))
/-- sequent/sequentref02.Depth -/
def b92 : SCode :=
  (.seq (.ops [.op (some 1) (.bx (.t 0)),
      .op (some 2) (.mv (.c (.i .i64 0)))])
  (.seq (.ops [.op (some 3) (.mv (.c (.i .i64 0)))])
  (.seq (.seq (.ops [.op (some 4) (.mv (.c (.i .i64 0)))])
  (.block 0 (.loop (.seq (.seq (.ops [.op (some 5) (.mv (.t 4)),
      .op (some 6) (.fa (.t 1) 6),
      .op (some 7) (.ld (.t 6) 1 false),
      .op (some 8) (.len (.t 7)),
      .op (some 9) (.bi .lss (.t 5) (.t 8))])
  (.cond (.t 9) .skip
    (.exit 0)))
  (.seq (.block 1 (.ops [.op (some 12) (.mv (.t 3)),
      .op (some 13) (.fa (.t 1) 6),
      .op (some 14) (.ld (.t 13) 1 false),
      .op (some 15) (.mv (.t 4)),
      .op (some 16) (.ia 7 (.t 14) (.t 15)),
      .op (some 17) (.ld (.t 16) 7 true),
      .call (some 18) (.c (.fn (.func 92) [] [])) [(.t 17)],
      .op (some 19) (.mx (.t 12) (.t 18)),
      .op (some 3) (.mv (.t 19))]))
  (.ops [.op (some 10) (.mv (.t 4)),
      .op (some 11) (.bi .add (.t 10) (.c (.i .i64 1))),
      .op (some 4) (.mv (.t 11))]))))))
  (.seq (.ops [.op (some 20) (.mv (.t 3)),
      .op (some 21) (.bi .add (.c (.i .i64 1)) (.t 20)),
      .op (some 2) (.mv (.t 21))])
  .ret))))
theorem s92_ok : fnOk Go.Proofs.Try.prog Go.Proofs.Try.f92 ⟨22, [.t 2], b92⟩ = true := by kernel_rfl
def ref02_Depth.L1 (self : Tm → Option (Int)) (t1 : Tm) : List Tm → Nat → Int → Option (Int)
  | [], i5, d4 => some (IntKind.i64.wrap (1 + d4))
  | e6 :: rest, i5, d4 => (Option.bind (self e6) fun r7 => ((ref02_Depth.L1 self t1 rest) (i5 + 1) (max d4 r7)))
def ref02_Depth.body (self : Tm → Option (Int)) (t1 : Tm) : Option (Int) := (ref02_Depth.L1 self t1 t1.s 0 0)
theorem ref02_Depth.body_pc (self : Tm → Option (Int)) (t1 : Tm) (hself : ∀ a0 r, self a0 = some r → PC Go.Proofs.Try.prog 92 [.agg (tmC a0)] (.i .i64 r)) (r : Int) (hF : ref02_Depth.body self t1 = some r) : PC Go.Proofs.Try.prog 92 [.agg (tmC t1)] (.i .i64 r) := by
  obtain ⟨z, hr⟩ : ∃ z, some r = some z := ⟨_, rfl⟩
  refine PC_z Go.Proofs.Try.func92 s92_ok (Nat.le_of_ble_eq_true rfl) fun hf => ?_
  unfold b92 start
  unfold ref02_Depth.body at hF
  try simp -dsimp only [go_sem]
  refine zloop_of (fun m s => ∃ (rest1 : List Tm) (i5 : Nat) (d4 : Int), List.drop i5 t1.s = rest1 ∧ List.length rest1 = m ∧ s = ⟨[(1, .ip (tmC t1)), (3, .i .i64 d4), (4, .i .i64 (i5 : Int))], []⟩ ∧ ref02_Depth.L1 self t1 rest1 i5 d4 = some r) (List.length t1.s) ⟨_, (Wks.ok (by simp -dsimp only [go_sem])), t1.s, 0, 0, rfl, rfl, rfl, hF⟩ ?_
  clear hF
  rintro _ _ ⟨rest1, i5, d4, hd1, rfl, rfl, hF⟩ hfit
  have h3 : List.length t1.s ≤ LIM := by
    have h := hfit.t 1; simp only [e_lk, Nat.reduceBEq, cond_true, cond_false, Fit, FitL, ty_eq, tm_eq, List.length_map] at h; omega
  cases rest1 with
  | nil =>
    have h1 := dn hd1
    unfold ref02_Depth.L1 at hF
    cases hF
    simp -dsimp only [go_sem, h1]
  | cons e6 rest1 =>
    obtain ⟨h1, h2, hd1⟩ := dc hd1
    have h4 := wi h1 h3
    unfold ref02_Depth.L1 at hF
    obtain ⟨r7, h5, hF⟩ := bind_of hF hr
    try simp -dsimp only [go_sem, h1, h2, h4]
    refine call_ok (hself e6  _ h5) (by simp -dsimp only [go_sem, h1, h2, h4]) ?_
    try simp -dsimp only [go_sem, h1, h2, h4]
    exact ⟨List.length rest1, _, Nat.lt_succ_self _, (Wks.ok (by simp -dsimp only [go_sem, h1, h2, h4])), rest1, i5 + 1, (max d4 r7), hd1, rfl, rfl, hF⟩
def ref02_Depth.fu : Nat → Tm → Option (Int)
  | 0 => fun _ => none
  | n + 1 => ref02_Depth.body (ref02_Depth.fu n)
theorem ref02_Depth.fu_pc : ∀ (n : Nat) (a0 : Tm) (r : Int), ref02_Depth.fu n a0 = some r → PC Go.Proofs.Try.prog 92 [.agg (tmC a0)] (.i .i64 r)
  | 0, a0, r, h => by cases h
  | n + 1, a0, r, h => ref02_Depth.body_pc (ref02_Depth.fu n) a0 (ref02_Depth.fu_pc n) r h
noncomputable def dpTo (t : Tm) : Option Int := og (bkT t ≤ 2 ^ 40) (dpT t : Int)
theorem ref02_Depth_ok (t : Tm) (self : Tm → Option Int) (hs : ∀ x ∈ t.s, self x = some (dpT x : Int)) (hb : bkT t ≤ 2 ^ 40) : ref02_Depth.body self t = some (dpT t : Int) := by
  have hsz := szT_bk t
  have hdp := dpT_le t
  have h1 := dpT_eq t
  have key : ∀ (rest : List Tm) (i : Nat) (n : Int), (∀ x ∈ rest, x ∈ t.s) → 0 ≤ n → n ≤ 2 ^ 40 → (dpTs rest : Int) ≤ 2 ^ 40 → ref02_Depth.L1 self t rest i n = some (1 + max n (dpTs rest : Int)) := by
    intro rest
    induction rest with
    | nil => intro i n _ _ _ _; simp only [ref02_Depth.L1, dpTs]; rw [wr64 (by omega) (by omega)]; congr 1; omega
    | cons x l ih =>
      intro i n hm h1 h2 h3
      simp only [dpTs] at h3
      simp only [ref02_Depth.L1, hs x (hm x (List.mem_cons_self ..)), Option.bind_some, dpTs]
      rw [ih _ _ (fun z hz => hm z (List.mem_cons_of_mem _ hz)) (by omega) (by omega) (by omega)]
      congr 1; omega
  unfold ref02_Depth.body
  rw [key t.s 0 0 (fun _ h => h) (by omega) (by omega) (by omega)]
  congr 1; omega
theorem dpTo_pc : ∀ (t : Tm) (r : Int), dpTo t = some r → PC Go.Proofs.Try.prog 92 [.agg (tmC t)] (.i .i64 r) :=
  Tm.ind fun t ih r hr => by
    obtain ⟨hb, rfl⟩ := og_of hr
    refine ref02_Depth.body_pc (fun x => og (x ∈ t.s) (dpT x : Int)) t (fun x r h => ?_) _ (ref02_Depth_ok t _ (fun x h => og_pos h) hb)
    obtain ⟨h1, rfl⟩ := og_of h
    have := bkT_sub h1
    exact ih x h1 _ (og_pos (by omega))
/-- sequent/sequentref02.Small -/
def b57 : SCode :=
  (.seq (.ops [.op (some 1) (.bx (.t 0)),
      .op (some 2) (.mv (.c (.b false)))])
  (cutS (.ops [.op (some 3) (.ld (.t 1) 7 true),
      .call (some 4) (.c (.fn (.func 91) [] [])) [(.t 3)],
      .op (some 5) (.bi .leq (.t 4) (.c (.i .i64 32000))),
      .op (some 6) (.mv (.t 5)),
      .gd 6 true (some 7) (.op (some 7) (.ld (.t 1) 7 true)),
      .gd 6 true (some 8) (.call (some 8) (.c (.fn (.func 92) [] [])) [(.t 7)]),
      .gd 6 true (some 9) (.op (some 9) (.bi .leq (.t 8) (.c (.i .i64 300)))),
      .op (some 10) (.pk (.t 6) (.t 9) (.c (.b false))),
      .op (some 2) (.mv (.t 10))])
  .ret))
theorem s57_ok : fnOk Go.Proofs.Try.prog Go.Proofs.Try.f57 ⟨11, [.t 2], b57⟩ = true := by kernel_rfl
def ref02_Small.J1 (x4 : Bool) : Option (Bool) := some x4
def ref02_Small (t1 : Tm) : Option (Bool) := (Option.bind (szTo t1) fun r2 => (bif (decide (r2 ≤ 32000)) then (Option.bind (dpTo t1) fun r3 => (ref02_Small.J1 (decide (r3 ≤ 300)))) else (ref02_Small.J1 false)))
theorem ref02_Small_pc (t1 : Tm) (r : Bool) (hF : ref02_Small t1 = some r) : PC Go.Proofs.Try.prog 57 [.agg (tmC t1)] (.b r) := by
  obtain ⟨z, hr⟩ : ∃ z, some r = some z := ⟨_, rfl⟩
  refine PC_z Go.Proofs.Try.func57 s57_ok (Nat.le_of_ble_eq_true rfl) fun hf => ?_
  unfold b57 start
  unfold ref02_Small at hF
  try simp -dsimp only [go_sem]
  refine zcut_of (fun s => ∃ (x4 : Bool), s = ⟨[(2, .b x4)], []⟩ ∧ ref02_Small.J1 x4 = some r) ?_ ?_
  · skip
    obtain ⟨r2, h2, hF⟩ := bind_of hF hr
    try simp -dsimp only [go_sem]
    refine call_ok (szTo_pc t1  _ h2) (by simp -dsimp only [go_sem]) ?_
    try simp -dsimp only [go_sem]
    refine zif_of (fun h3 => ?_) (fun h3 => ?_)
    · skip
      replace hF := cond_t h3 hF
      obtain ⟨r3, h4, hF⟩ := bind_of hF hr
      try simp -dsimp only [go_sem, h3]
      refine call_ok (dpTo_pc t1  _ h4) (by simp -dsimp only [go_sem, h3]) ?_
      try simp -dsimp only [go_sem, h3]
      exact ⟨_, (Wks.ok (by simp -dsimp only [go_sem, h3])), (decide (r3 ≤ 300)), rfl, hF⟩
    · skip
      replace hF := cond_f h3 hF
      try simp -dsimp only [go_sem, h3]
      exact ⟨_, (Wks.ok (by simp -dsimp only [go_sem, h3])), false, rfl, hF⟩
  clear hF
  rintro _ ⟨x4, rfl, hF⟩ hfit
  unfold ref02_Small.J1 at hF
  cases hF
  simp -dsimp only [go_sem]
theorem ref02_Small_eq (t : Tm) (hb : bkT t ≤ 2 ^ 40) : ref02_Small t = some (smallT t) := by
  unfold ref02_Small ref02_Small.J1 szTo dpTo smallT
  rw [og_pos hb, og_pos hb]
  simp only [Option.bind_some, Bool.cond_eq_ite]
  by_cases h1 : szT t ≤ 32000 <;> by_cases h2 : dpT t ≤ 300 <;> grind
/-- sequent/sequentref02.Great -/
def b22 : SCode :=
  (.seq (.ops [.op (some 1) (.bx (.t 0)),
      .op (some 2) (.mv (.c (.b false)))])
  (.seq (.seq (.ops [.op (some 3) (.ld (.t 1) 7 true),
      .call (some 4) (.c (.fn (.func 56) [] [])) [(.t 3), (.c (.i .i64 2000)), (.c (.i .i64 400))],
      .op (some 5) (.bi .gtr (.t 4) (.c (.i .i64 0)))])
  (.cond (.t 5) (.seq (.ops [.op (some 2) (.mv (.c (.b false)))])
    .ret)
    .skip))
  (cutS (.ops [.op (some 6) (.ld (.t 1) 7 true),
      .call (some 7) (.c (.fn (.func 56) [] [])) [(.t 6), (.c (.i .i64 40000)), (.c (.i .i64 400))],
      .op (some 8) (.bi .leq (.t 7) (.c (.i .i64 0))),
      .op (some 9) (.mv (.t 8)),
      .gd 9 false (some 10) (.op (some 10) (.ld (.t 1) 7 true)),
      .gd 9 false (some 11) (.call (some 11) (.c (.fn (.func 57) [] [])) [(.t 10)]),
      .op (some 12) (.pk (.t 9) (.c (.b true)) (.t 11)),
      .op (some 2) (.mv (.t 12))])
  .ret)))
theorem s22_ok : fnOk Go.Proofs.Try.prog Go.Proofs.Try.f22 ⟨13, [.t 2], b22⟩ = true := by kernel_rfl
def ref02_Great.J1 (x5 : Bool) : Option (Bool) := some x5
def ref02_Great (t1 : Tm) : Option (Bool) := (Option.bind (cntTo t1 2000 400) fun r2 => (bif (decide (0 < r2)) then some false else (Option.bind (cntTo t1 40000 400) fun r3 => (bif (decide (r3 ≤ 0)) then (ref02_Great.J1 true) else (Option.bind (ref02_Small t1) fun r4 => (ref02_Great.J1 r4))))))
theorem ref02_Great_pc (t1 : Tm) (r : Bool) (hF : ref02_Great t1 = some r) : PC Go.Proofs.Try.prog 22 [.agg (tmC t1)] (.b r) := by
  obtain ⟨z, hr⟩ : ∃ z, some r = some z := ⟨_, rfl⟩
  refine PC_z Go.Proofs.Try.func22 s22_ok (Nat.le_of_ble_eq_true rfl) fun hf => ?_
  unfold b22 start
  unfold ref02_Great at hF
  obtain ⟨r2, h1, hF⟩ := bind_of hF hr
  try simp -dsimp only [go_sem]
  refine call_ok (cntTo_pc t1 2000 400  _ h1) (by simp -dsimp only [go_sem]) ?_
  try simp -dsimp only [go_sem]
  refine zif_of (fun h2 => ?_) (fun h2 => ?_)
  · skip
    replace hF := cond_t h2 hF
    cases hF
    simp -dsimp only [go_sem, h2]
  · skip
    replace hF := cond_f h2 hF
    try simp -dsimp only [go_sem, h2]
    refine zcut_of (fun s => ∃ (x5 : Bool), s = ⟨[(2, .b x5)], []⟩ ∧ ref02_Great.J1 x5 = some r) ?_ ?_
    · skip
      obtain ⟨r3, h4, hF⟩ := bind_of hF hr
      try simp -dsimp only [go_sem, h2]
      refine call_ok (cntTo_pc t1 40000 400  _ h4) (by simp -dsimp only [go_sem, h2]) ?_
      try simp -dsimp only [go_sem, h2]
      refine zif_of (fun h5 => ?_) (fun h5 => ?_)
      · skip
        replace hF := cond_t h5 hF
        try simp -dsimp only [go_sem, h2, h5]
        exact ⟨_, (Wks.ok (by simp -dsimp only [go_sem, h2, h5])), true, rfl, hF⟩
      · skip
        replace hF := cond_f h5 hF
        obtain ⟨r4, h6, hF⟩ := bind_of hF hr
        try simp -dsimp only [go_sem, h2, h5]
        refine call_ok (ref02_Small_pc t1  _ h6) (by simp -dsimp only [go_sem, h2, h5]) ?_
        try simp -dsimp only [go_sem, h2, h5]
        exact ⟨_, (Wks.ok (by simp -dsimp only [go_sem, h2, h5])), r4, rfl, hF⟩
    clear hF
    rintro _ ⟨x5, rfl, hF⟩ hfit
    unfold ref02_Great.J1 at hF
    cases hF
    simp -dsimp only [go_sem, h2]
theorem ref02_Great_eq (t : Tm) (hf : fitT t) (hb : bkT t ≤ 2 ^ 40) : ref02_Great t = some (greatT t) := by
  unfold ref02_Great ref02_Great.J1 cntTo greatT
  rw [og_pos ⟨hf, by omega, by omega, by omega, by omega⟩, og_pos ⟨hf, by omega, by omega, by omega, by omega⟩, ref02_Small_eq t hb]
  simp only [Option.bind_some, Bool.cond_eq_ite]
  grind
/-- sequent/terms.extent -/
def b122 : SCode :=
  (.seq (.ops [.op (some 1) (.bx (.t 0)),
      .op (some 2) (.mv (.c (.i .i64 0))),
      .op (some 3) (.mv (.c (.i .i64 0)))])
  (.seq (.ops [.op (some 2) (.mv (.c (.i .i64 1)))])
  (.seq (.seq (.ops [.op (some 8) (.fa (.t 1) 6),
      .op (some 9) (.ld (.t 8) 1 false),
      .op (some 10) (.len (.t 9)),
      .op (some 11) (.mv (.c (.i .i64 0)))])
  (.block 0 (.loop (.seq (.ops [.op (some 12) (.bi .lss (.t 11) (.t 10))])
  (.seq (.cond (.t 12) .skip
    (.exit 0))
  (.seq (.block 1 (.seq (.ops [.op (some 13) (.ia 7 (.t 9) (.t 11)),
      .op (some 14) (.ld (.t 13) 7 true),
      .op (some 5) (.alm 27 zTm),
      .op none (.st (.t 5) 7 (.t 14))])
  (.seq (.ops [.op (some 16) (.ld (.t 5) 7 true),
      .call (some 17) (.c (.fn (.func 122) [] [])) [(.t 16)],
      .op (some 15) (.mv (.t 17)),
      .op (some 18) (.ext (.t 15) 0),
      .op (some 19) (.ext (.t 15) 1),
      .op (some 6) (.mv (.t 18)),
      .op (some 7) (.mv (.t 19))])
  (.ops [.op (some 20) (.mv (.t 2)),
      .op (some 21) (.mv (.t 6)),
      .op (some 22) (.bi .add (.t 20) (.t 21)),
      .op (some 23) (.mv (.t 3)),
      .op (some 24) (.mv (.t 7)),
      .op (some 25) (.mx (.t 23) (.t 24)),
      .op (some 2) (.mv (.t 22)),
      .op (some 3) (.mv (.t 25))]))))
  (.ops [.op (some 26) (.bi .add (.t 11) (.c (.i .i64 1))),
      .op (some 11) (.mv (.t 26))])))))))
  (.seq (.ops [.op (some 27) (.mv (.t 2)),
      .op (some 28) (.mv (.t 3)),
      .op (some 29) (.bi .add (.t 28) (.c (.i .i64 1))),
      .op (some 2) (.mv (.t 27)),
      .op (some 3) (.mv (.t 29))])
  .ret))))
theorem s122_ok : fnOk Go.Proofs.Try.prog Go.Proofs.Try.f122 ⟨30, [.t 2, .t 3], b122⟩ = true := by kernel_rfl
def terms_extent.L1 (self : Tm → Option (Int × Int)) (t1 : Tm) : List Tm → Nat → Int → Int → Option (Int × Int)
  | [], x6, size4, deep5 => some (size4, (IntKind.i64.wrap (deep5 + 1)))
  | e7 :: rest, x6, size4, deep5 => (Option.bind (self e7) fun r8 => ((terms_extent.L1 self t1 rest) (x6 + 1) (IntKind.i64.wrap (size4 + r8.1)) (max deep5 r8.2)))
def terms_extent.body (self : Tm → Option (Int × Int)) (t1 : Tm) : Option (Int × Int) := (terms_extent.L1 self t1 t1.s 0 1 0)
theorem terms_extent.body_pc (self : Tm → Option (Int × Int)) (t1 : Tm) (hself : ∀ a0 r, self a0 = some r → PC Go.Proofs.Try.prog 122 [.agg (tmC a0)] (.tup [.i .i64 r.1, .i .i64 r.2])) (r : Int × Int) (hF : terms_extent.body self t1 = some r) : PC Go.Proofs.Try.prog 122 [.agg (tmC t1)] (.tup [.i .i64 r.1, .i .i64 r.2]) := by
  obtain ⟨z, hr⟩ : ∃ z, some r = some z := ⟨_, rfl⟩
  refine PC_z Go.Proofs.Try.func122 s122_ok (Nat.le_of_ble_eq_true rfl) fun hf => ?_
  unfold b122 start
  unfold terms_extent.body at hF
  try simp -dsimp only [go_sem]
  refine zloop_of (fun m s => ∃ (rest1 : List Tm) (x6 : Nat) (size4 : Int) (deep5 : Int), List.drop x6 t1.s = rest1 ∧ List.length rest1 = m ∧ s = ⟨[(2, .i .i64 size4), (3, .i .i64 deep5), (9, .sl false 7 (List.map tmC t1.s)), (10, .i .i64 (List.length t1.s : Int)), (11, .i .i64 (x6 : Int))], []⟩ ∧ terms_extent.L1 self t1 rest1 x6 size4 deep5 = some r) (List.length t1.s) ⟨_, (Wks.ok (by simp -dsimp only [go_sem])), t1.s, 0, 1, 0, rfl, rfl, rfl, hF⟩ ?_
  clear hF
  rintro _ _ ⟨rest1, x6, size4, deep5, hd1, rfl, rfl, hF⟩ hfit
  have h3 : List.length t1.s ≤ LIM := by
    have h := hfit.t 9; simp only [e_lk, Nat.reduceBEq, cond_true, cond_false, Fit, FitL, ty_eq, tm_eq, List.length_map] at h; omega
  cases rest1 with
  | nil =>
    have h1 := dn hd1
    unfold terms_extent.L1 at hF
    cases hF
    simp -dsimp only [go_sem, h1]
  | cons e7 rest1 =>
    obtain ⟨h1, h2, hd1⟩ := dc hd1
    have h4 := wi h1 h3
    unfold terms_extent.L1 at hF
    obtain ⟨r8, h5, hF⟩ := bind_of hF hr
    try simp -dsimp only [go_sem, h1, h2, h4]
    refine call_ok (hself e7  _ h5) (by simp -dsimp only [go_sem, h1, h2, h4]) ?_
    try simp -dsimp only [go_sem, h1, h2, h4]
    exact ⟨List.length rest1, _, Nat.lt_succ_self _, (Wks.ok (by simp -dsimp only [go_sem, h1, h2, h4])), rest1, x6 + 1, (IntKind.i64.wrap (size4 + r8.1)), (max deep5 r8.2), hd1, rfl, rfl, hF⟩
def terms_extent.fu : Nat → Tm → Option (Int × Int)
  | 0 => fun _ => none
  | n + 1 => terms_extent.body (terms_extent.fu n)
theorem terms_extent.fu_pc : ∀ (n : Nat) (a0 : Tm) (r : Int × Int), terms_extent.fu n a0 = some r → PC Go.Proofs.Try.prog 122 [.agg (tmC a0)] (.tup [.i .i64 r.1, .i .i64 r.2])
  | 0, a0, r, h => by cases h
  | n + 1, a0, r, h => terms_extent.body_pc (terms_extent.fu n) a0 (terms_extent.fu_pc n) r h
noncomputable def exTo (t : Tm) : Option (Int × Int) := og (bkT t ≤ 2 ^ 40) ((szT t : Int), (dpT t : Int))
theorem terms_extent_ok (t : Tm) (self : Tm → Option (Int × Int)) (hs : ∀ x ∈ t.s, self x = some ((szT x : Int), (dpT x : Int))) (hb : bkT t ≤ 2 ^ 40) : terms_extent.body self t = some ((szT t : Int), (dpT t : Int)) := by
  have hsz := szT_bk t
  have hdp := dpT_le t
  have h0 := szT_eq t
  have h1 := dpT_eq t
  have key : ∀ (rest : List Tm) (i : Nat) (n d : Int), (∀ x ∈ rest, x ∈ t.s) → 0 ≤ n → n + szTs rest ≤ 2 ^ 40 → 0 ≤ d → d ≤ 2 ^ 40 → (dpTs rest : Int) ≤ 2 ^ 40 → terms_extent.L1 self t rest i n d = some (n + szTs rest, max d (dpTs rest : Int) + 1) := by
    intro rest
    induction rest with
    | nil => intro i n d _ _ _ _ _ _; simp only [terms_extent.L1, dpTs, szTs]; rw [wr64 (by omega) (by omega)]; congr 2 <;> omega
    | cons x l ih =>
      intro i n d hm h1 h2 h3 h4 h5
      simp only [dpTs, szTs] at h2 h5
      simp only [terms_extent.L1, hs x (hm x (List.mem_cons_self ..)), Option.bind_some, dpTs, szTs]
      rw [wr64 (by omega) (by omega), ih _ _ _ (fun z hz => hm z (List.mem_cons_of_mem _ hz)) (by omega) (by omega) (by omega) (by omega) (by omega)]
      congr 2 <;> omega
  unfold terms_extent.body
  rw [key t.s 0 1 0 (fun _ h => h) (by omega) (by omega) (by omega) (by omega) (by omega)]
  congr 2 <;> omega
theorem exTo_pc : ∀ (t : Tm) (r : Int × Int), exTo t = some r → PC Go.Proofs.Try.prog 122 [.agg (tmC t)] (.tup [.i .i64 r.1, .i .i64 r.2]) :=
  Tm.ind fun t ih r hr => by
    obtain ⟨hb, rfl⟩ := og_of hr
    refine terms_extent.body_pc (fun x => og (x ∈ t.s) ((szT x : Int), (dpT x : Int))) t (fun x r h => ?_) _ (terms_extent_ok t _ (fun x h => og_pos h) hb)
    obtain ⟨h1, rfl⟩ := og_of h
    have := bkT_sub h1
    exact ih x h1 _ (og_pos (by omega))
/-- sequent/terms.great -/
def b105 : SCode :=
  (.seq (.ops [.op (some 1) (.bx (.t 0)),
      .op (some 2) (.mv (.c (.b false)))])
  (.seq (.ops [.op (some 6) (.ld (.t 1) 7 true),
      .call (some 7) (.c (.fn (.func 122) [] [])) [(.t 6)],
      .op (some 5) (.mv (.t 7)),
      .op (some 8) (.ext (.t 5) 0),
      .op (some 9) (.ext (.t 5) 1),
      .op (some 3) (.mv (.t 8)),
      .op (some 4) (.mv (.t 9))])
  (cutS (.ops [.op (some 10) (.mv (.t 3)),
      .op (some 11) (.bi .gtr (.t 10) (.c (.i .i64 32000))),
      .op (some 12) (.mv (.t 11)),
      .gd 12 false (some 13) (.op (some 13) (.mv (.t 4))),
      .gd 12 false (some 14) (.op (some 14) (.bi .gtr (.t 13) (.c (.i .i64 300)))),
      .op (some 15) (.pk (.t 12) (.c (.b true)) (.t 14)),
      .op (some 2) (.mv (.t 15))])
  .ret)))
theorem s105_ok : fnOk Go.Proofs.Try.prog Go.Proofs.Try.f105 ⟨16, [.t 2], b105⟩ = true := by kernel_rfl
def terms_great (t1 : Tm) : Option (Bool) := (Option.bind (exTo t1) fun r2 => some ((decide (32000 < r2.1)) || (decide (300 < r2.2))))
theorem terms_great_pc (t1 : Tm) (r : Bool) (hF : terms_great t1 = some r) : PC Go.Proofs.Try.prog 105 [.agg (tmC t1)] (.b r) := by
  obtain ⟨z, hr⟩ : ∃ z, some r = some z := ⟨_, rfl⟩
  refine PC_z Go.Proofs.Try.func105 s105_ok (Nat.le_of_ble_eq_true rfl) fun hf => ?_
  unfold b105 start
  unfold terms_great at hF
  obtain ⟨r2, h1, hF⟩ := bind_of hF hr
  try simp -dsimp only [go_sem]
  refine call_ok (exTo_pc t1  _ h1) (by simp -dsimp only [go_sem]) ?_
  try simp -dsimp only [go_sem]
  refine zcut_of (fun s => s = ⟨[(2, .b ((decide (32000 < r2.1)) || (decide (300 < r2.2))))], []⟩) ?_ ?_
  · skip
    try simp -dsimp only [go_sem]
    refine zif_of (fun h2 => ?_) (fun h2 => ?_)
    · skip
      try simp -dsimp only [go_sem, h2]
      exact ⟨_, (Wks.ok (by simp -dsimp only [go_sem, h2])), rfl⟩
    · skip
      try simp -dsimp only [go_sem, h2]
      exact ⟨_, (Wks.ok (by simp -dsimp only [go_sem, h2])), rfl⟩
  rintro _ rfl hfit
  cases hF
  simp -dsimp only [go_sem]
theorem terms_great_eq (t : Tm) (hb : bkT t ≤ 2 ^ 40) : terms_great t = some (!smallT t) := by
  unfold terms_great exTo smallT
  rw [og_pos hb]
  simp only [Option.bind_some]
  by_cases h1 : szT t ≤ 32000 <;> by_cases h2 : dpT t ≤ 300 <;> grind

end
end Go.Ab.Q
