/- A part of the proof: Q2. -/
import Derived.Test.YtjfjcmfncgfhoaaAbY
import Derived.Test.YtjfjcmfncgfhoaaProg
import Derived.KernelRfl
import Derived.Test.YtjfjcmfncgfhoaaQ1
set_option linter.all false
set_option maxRecDepth 100000
set_option maxHeartbeats 4000000
set_option linter.unusedSimpArgs false
set_option linter.unusedVariables false
namespace Go.Ab.Q
open Go.RowKit
noncomputable section

/-- sequent/types.name -/
def b140 : SCode :=
  (.seq (.ops [.op (some 2) (.mv (.c (.b false)))])
  (.seq (.seq (.ops [.op (some 5) (.mv (.t 0)),
      .op (some 6) (.lens (.t 5)),
      .op (some 7) (.mv (.c (.i .i64 0)))])
  (.block 0 (.loop (.seq (.ops [.op (some 8) (.bi .lss (.t 7) (.t 6))])
  (.seq (.cond (.t 8) .skip
    (.exit 0))
  (.seq (.block 1 (.seq (.ops [.op (some 9) (.mv (.t 7)),
      .op (some 3) (.mv (.t 9))])
  (.seq (.ops [.op (some 10) (.mv (.t 0)),
      .op (some 11) (.mv (.t 3)),
      .op (some 12) (.ix (.t 10) (.t 11)),
      .op (some 4) (.mv (.t 12))])
  (.seq (.ops [.op (some 13) (.mv (.t 4))])
  (.block 2 (cutS (.seq (.ops [.op (some 21) (.bi .eql (.t 13) (.c (.i .u8 40))),
      .op (some 20) (.mv (.t 21))])
  (.cond (.t 20) .skip
    (.seq (.ops [.op (some 22) (.bi .eql (.t 13) (.c (.i .u8 41))),
        .op (some 20) (.mv (.t 22))])
    (.cond (.t 20) .skip
      (.seq (.ops [.op (some 23) (.bi .eql (.t 13) (.c (.i .u8 44))),
          .op (some 20) (.mv (.t 23))])
      (.cond (.t 20) .skip
        (.seq (.ops [.op (some 24) (.bi .eql (.t 13) (.c (.i .u8 58))),
            .op (some 20) (.mv (.t 24))])
        (.cond (.t 20) .skip
          (.seq (.ops [.op (some 25) (.bi .eql (.t 13) (.c (.i .u8 92))),
              .op (some 20) (.mv (.t 25))])
          (.cond (.t 20) .skip
            (.seq (.ops [.op (some 26) (.bi .eql (.t 13) (.c (.i .u8 46))),
                .op (some 20) (.mv (.t 26))])
            (.cond (.t 20) .skip
              (.ops [.op (some 27) (.bi .eql (.t 13) (.c (.i .u8 34))),
                  .op (some 20) (.mv (.t 27))])))))))))))))
  (.cond (.t 20) (.seq (.ops [.op (some 2) (.mv (.c (.b false)))])
    .ret)
    (cutS (.ops [.op (some 14) (.mv (.t 4)),
        .op (some 15) (.bi .lss (.t 14) (.c (.i .u8 33))),
        .op (some 16) (.mv (.t 15)),
        .gd 16 false (some 17) (.op (some 17) (.mv (.t 4))),
        .gd 16 false (some 18) (.op (some 18) (.bi .gtr (.t 17) (.c (.i .u8 126)))),
        .op (some 19) (.pk (.t 16) (.c (.b true)) (.t 18))])
    (.cond (.t 19) (.seq (.ops [.op (some 2) (.mv (.c (.b false)))])
      .ret)
      .skip)))))))))
  (.ops [.op (some 28) (.bi .add (.t 7) (.c (.i .i64 1))),
      .op (some 7) (.mv (.t 28))])))))))
  (cutS (.ops [.op (some 29) (.mv (.t 0)),
      .op (some 30) (.bi .neq (.t 29) (.c (.s { data := #[] }))),
      .op (some 31) (.mv (.t 30)),
      .gd 31 true (some 32) (.op (some 32) (.mv (.t 0))),
      .gd 31 true (some 33) (.op (some 33) (.lens (.t 32))),
      .gd 31 true (some 34) (.op (some 34) (.bi .leq (.t 33) (.c (.i .i64 30)))),
      .op (some 35) (.pk (.t 31) (.t 34) (.c (.b false))),
      .op (some 2) (.mv (.t 35))])
  .ret)))
theorem s140_ok : fnOk Go.Proofs.Try.prog Go.Proofs.Try.f140 ⟨36, [.t 2], b140⟩ = true := by kernel_rfl
def types_name.L1 (s1 : ByteArray) : List UInt8 → Nat → Bool
  | [], x3 => ((!decide (s1 = (⟨#[]⟩ : ByteArray))) && (decide ((ByteArray.size s1 : Int) ≤ 30)))
  | e4 :: rest, x3 => (bif ((decide ((UInt8.toNat e4 : Int) = 40)) || ((decide ((UInt8.toNat e4 : Int) = 41)) || ((decide ((UInt8.toNat e4 : Int) = 44)) || ((decide ((UInt8.toNat e4 : Int) = 58)) || ((decide ((UInt8.toNat e4 : Int) = 92)) || ((decide ((UInt8.toNat e4 : Int) = 46)) || (decide ((UInt8.toNat e4 : Int) = 34)))))))) then false else (bif ((decide ((UInt8.toNat e4 : Int) < 33)) || (decide (126 < (UInt8.toNat e4 : Int)))) then false else ((types_name.L1 s1 rest) (x3 + 1))))
def types_name (s1 : ByteArray) : Bool := (types_name.L1 s1 ((ByteArray.data s1).toList) 0)
theorem types_name_pc (s1 : ByteArray) : PC Go.Proofs.Try.prog 140 [.s s1] (.b (types_name s1)) := by
  obtain ⟨r, hF⟩ : ∃ r, types_name s1 = r := ⟨_, rfl⟩
  rw [hF]
  refine PC_z Go.Proofs.Try.func140 s140_ok (Nat.le_of_ble_eq_true rfl) fun hf => ?_
  unfold b140 start
  unfold types_name at hF
  try simp -dsimp only [go_sem]
  refine zloop_of (fun m s => ∃ (rest1 : List UInt8) (x3 : Nat), List.drop x3 ((ByteArray.data s1).toList) = rest1 ∧ List.length rest1 = m ∧ s = ⟨[(0, .s s1), (6, .i .i64 (ByteArray.size s1 : Int)), (7, .i .i64 (x3 : Int))], []⟩ ∧ types_name.L1 s1 rest1 x3 = r) (List.length ((ByteArray.data s1).toList)) ⟨_, (Wks.ok (by simp -dsimp only [go_sem])), ((ByteArray.data s1).toList), 0, rfl, rfl, rfl, hF⟩ ?_
  clear hF
  rintro _ _ ⟨rest1, x3, hd1, rfl, rfl, hF⟩ hfit
  have h3 : ByteArray.size s1 ≤ LIM := by
    have h := hfit.t 0; simp only [e_lk, Nat.reduceBEq, cond_true, cond_false, Fit, FitL, ty_eq, tm_eq, List.length_map] at h; omega
  cases rest1 with
  | nil =>
    have h1 := dnS hd1
    unfold types_name.L1 at hF
    try simp -dsimp only [go_sem, h1]
    refine zcut_of (fun s => s = ⟨[(2, .b ((!decide (s1 = (⟨#[]⟩ : ByteArray))) && (decide ((ByteArray.size s1 : Int) ≤ 30))))], []⟩) ?_ ?_
    · skip
      try simp -dsimp only [go_sem, h1]
      refine zif_of (fun h5 => ?_) (fun h5 => ?_)
      · skip
        try simp -dsimp only [go_sem, h1, h5]
        exact ⟨_, (Wks.ok (by simp -dsimp only [go_sem, h1, h5])), rfl⟩
      · skip
        try simp -dsimp only [go_sem, h1, h5]
        exact ⟨_, (Wks.ok (by simp -dsimp only [go_sem, h1, h5])), rfl⟩
    rintro _ rfl hfit
    subst hF
    simp -dsimp only [go_sem, h1]
  | cons e4 rest1 =>
    obtain ⟨h1, h2, hd1⟩ := dcS hd1
    have h4 := wiS h1 h3
    unfold types_name.L1 at hF
    try simp -dsimp only [go_sem, h1, h2, h4]
    refine zcut_of (fun s => s = ⟨[(0, .s s1), (4, .i .u8 (UInt8.toNat e4 : Int)), (6, .i .i64 (ByteArray.size s1 : Int)), (7, .i .i64 (x3 : Int)), (20, .b ((decide ((UInt8.toNat e4 : Int) = 40)) || ((decide ((UInt8.toNat e4 : Int) = 41)) || ((decide ((UInt8.toNat e4 : Int) = 44)) || ((decide ((UInt8.toNat e4 : Int) = 58)) || ((decide ((UInt8.toNat e4 : Int) = 92)) || ((decide ((UInt8.toNat e4 : Int) = 46)) || (decide ((UInt8.toNat e4 : Int) = 34)))))))))], []⟩) ?_ ?_
    · skip
      try simp -dsimp only [go_sem, h1, h2, h4]
      refine zif_of (fun h6 => ?_) (fun h6 => ?_)
      · skip
        try simp -dsimp only [go_sem, h1, h2, h4, h6]
        exact ⟨_, (Wks.ok (by simp -dsimp only [go_sem, h1, h2, h4, h6])), rfl⟩
      · skip
        try simp -dsimp only [go_sem, h1, h2, h4, h6]
        refine zif_of (fun h7 => ?_) (fun h7 => ?_)
        · skip
          try simp -dsimp only [go_sem, h1, h2, h4, h6, h7]
          exact ⟨_, (Wks.ok (by simp -dsimp only [go_sem, h1, h2, h4, h6, h7])), rfl⟩
        · skip
          try simp -dsimp only [go_sem, h1, h2, h4, h6, h7]
          refine zif_of (fun h8 => ?_) (fun h8 => ?_)
          · skip
            try simp -dsimp only [go_sem, h1, h2, h4, h6, h7, h8]
            exact ⟨_, (Wks.ok (by simp -dsimp only [go_sem, h1, h2, h4, h6, h7, h8])), rfl⟩
          · skip
            try simp -dsimp only [go_sem, h1, h2, h4, h6, h7, h8]
            refine zif_of (fun h9 => ?_) (fun h9 => ?_)
            · skip
              try simp -dsimp only [go_sem, h1, h2, h4, h6, h7, h8, h9]
              exact ⟨_, (Wks.ok (by simp -dsimp only [go_sem, h1, h2, h4, h6, h7, h8, h9])), rfl⟩
            · skip
              try simp -dsimp only [go_sem, h1, h2, h4, h6, h7, h8, h9]
              refine zif_of (fun h10 => ?_) (fun h10 => ?_)
              · skip
                try simp -dsimp only [go_sem, h1, h2, h4, h6, h7, h8, h9, h10]
                exact ⟨_, (Wks.ok (by simp -dsimp only [go_sem, h1, h2, h4, h6, h7, h8, h9, h10])), rfl⟩
              · skip
                try simp -dsimp only [go_sem, h1, h2, h4, h6, h7, h8, h9, h10]
                refine zif_of (fun h11 => ?_) (fun h11 => ?_)
                · skip
                  try simp -dsimp only [go_sem, h1, h2, h4, h6, h7, h8, h9, h10, h11]
                  exact ⟨_, (Wks.ok (by simp -dsimp only [go_sem, h1, h2, h4, h6, h7, h8, h9, h10, h11])), rfl⟩
                · skip
                  try simp -dsimp only [go_sem, h1, h2, h4, h6, h7, h8, h9, h10, h11]
                  exact ⟨_, (Wks.ok (by simp -dsimp only [go_sem, h1, h2, h4, h6, h7, h8, h9, h10, h11])), rfl⟩
    rintro _ rfl hfit
    try simp -dsimp only [go_sem, h1, h2, h4]
    refine zif_of (fun h12 => ?_) (fun h12 => ?_)
    · skip
      replace hF := cond_t h12 hF
      subst hF
      simp -dsimp only [go_sem, h1, h2, h4, h12]
    · skip
      replace hF := cond_f h12 hF
      try simp -dsimp only [go_sem, h1, h2, h4, h12]
      refine zcut_of (fun s => s = ⟨[(0, .s s1), (6, .i .i64 (ByteArray.size s1 : Int)), (7, .i .i64 (x3 : Int)), (19, .b ((decide ((UInt8.toNat e4 : Int) < 33)) || (decide (126 < (UInt8.toNat e4 : Int)))))], []⟩) ?_ ?_
      · skip
        try simp -dsimp only [go_sem, h1, h2, h4, h12]
        refine zif_of (fun h13 => ?_) (fun h13 => ?_)
        · skip
          try simp -dsimp only [go_sem, h1, h2, h4, h12, h13]
          exact ⟨_, (Wks.ok (by simp -dsimp only [go_sem, h1, h2, h4, h12, h13])), rfl⟩
        · skip
          try simp -dsimp only [go_sem, h1, h2, h4, h12, h13]
          exact ⟨_, (Wks.ok (by simp -dsimp only [go_sem, h1, h2, h4, h12, h13])), rfl⟩
      rintro _ rfl hfit
      try simp -dsimp only [go_sem, h1, h2, h4, h12]
      refine zif_of (fun h14 => ?_) (fun h14 => ?_)
      · skip
        replace hF := cond_t h14 hF
        subst hF
        simp -dsimp only [go_sem, h1, h2, h4, h12, h14]
      · skip
        replace hF := cond_f h14 hF
        try simp -dsimp only [go_sem, h1, h2, h4, h12, h14]
        exact ⟨List.length rest1, _, Nat.lt_succ_self _, (Wks.ok (by simp -dsimp only [go_sem, h1, h2, h4, h12, h14])), rest1, x3 + 1, hd1, rfl, rfl, hF⟩
/-- sequent/sequentref01.Name -/
def b126 : SCode :=
  (.seq (.ops [.op (some 2) (.mv (.c (.b false)))])
  (.seq (cutS (.ops [.op (some 5) (.mv (.t 0)),
      .op (some 6) (.lens (.t 5)),
      .op (some 7) (.bi .lss (.t 6) (.c (.i .i64 1))),
      .op (some 8) (.mv (.t 7)),
      .gd 8 false (some 9) (.op (some 9) (.mv (.t 0))),
      .gd 8 false (some 10) (.op (some 10) (.lens (.t 9))),
      .gd 8 false (some 11) (.op (some 11) (.bi .gtr (.t 10) (.c (.i .i64 30)))),
      .op (some 12) (.pk (.t 8) (.c (.b true)) (.t 11))])
  (.cond (.t 12) (.seq (.ops [.op (some 2) (.mv (.c (.b false)))])
    .ret)
    .skip))
  (.seq (.seq (.ops [.op (some 3) (.mv (.c (.i .i64 0)))])
  (.block 0 (.loop (.seq (.seq (.ops [.op (some 13) (.mv (.t 3)),
      .op (some 14) (.mv (.t 0)),
      .op (some 15) (.lens (.t 14)),
      .op (some 16) (.bi .lss (.t 13) (.t 15))])
  (.cond (.t 16) .skip
    (.exit 0)))
  (.seq (.block 1 (.seq (.ops [.op (some 19) (.mv (.t 0)),
      .op (some 20) (.mv (.t 3)),
      .op (some 21) (.ix (.t 19) (.t 20)),
      .op (some 4) (.mv (.t 21))])
  (cutS (.ops (.op (some 22) (.mv (.t 4)) ::
      .op (some 23) (.bi .lss (.t 22) (.c (.i .u8 33))) ::
      .op (some 24) (.mv (.t 23)) ::
      .gd 24 false (some 25) (.op (some 25) (.mv (.t 4))) ::
      .gd 24 false (some 26) (.op (some 26) (.bi .gtr (.t 25) (.c (.i .u8 126)))) ::
      .op (some 27) (.pk (.t 24) (.c (.b true)) (.t 26)) ::
      .op (some 28) (.mv (.t 27)) ::
      .gd 28 false (some 29) (.op (some 29) (.mv (.t 4))) ::
      .gd 28 false (some 30) (.op (some 30) (.bi .eql (.t 29) (.c (.i .u8 40)))) ::
      .op (some 31) (.pk (.t 28) (.c (.b true)) (.t 30)) ::
      .op (some 32) (.mv (.t 31)) ::
      .gd 32 false (some 33) (.op (some 33) (.mv (.t 4))) ::
      .gd 32 false (some 34) (.op (some 34) (.bi .eql (.t 33) (.c (.i .u8 41)))) ::
      .op (some 35) (.pk (.t 32) (.c (.b true)) (.t 34)) ::
      .op (some 36) (.mv (.t 35)) ::
      .gd 36 false (some 37) (.op (some 37) (.mv (.t 4))) ::
      .gd 36 false (some 38) (.op (some 38) (.bi .eql (.t 37) (.c (.i .u8 44)))) ::
      .op (some 39) (.pk (.t 36) (.c (.b true)) (.t 38)) ::
      .op (some 40) (.mv (.t 39)) ::
      .gd 40 false (some 41) (.op (some 41) (.mv (.t 4))) ::
      .gd 40 false (some 42) (.op (some 42) (.bi .eql (.t 41) (.c (.i .u8 58)))) ::
      .op (some 43) (.pk (.t 40) (.c (.b true)) (.t 42)) ::
      .op (some 44) (.mv (.t 43)) ::
      .gd 44 false (some 45) (.op (some 45) (.mv (.t 4))) ::
      .gd 44 false (some 46) (.op (some 46) (.bi .eql (.t 45) (.c (.i .u8 92)))) ::
      .op (some 47) (.pk (.t 44) (.c (.b true)) (.t 46)) ::
      .op (some 48) (.mv (.t 47)) ::
      .gd 48 false (some 49) (.op (some 49) (.mv (.t 4))) ::
      .gd 48 false (some 50) (.op (some 50) (.bi .eql (.t 49) (.c (.i .u8 46)))) ::
      .op (some 51) (.pk (.t 48) (.c (.b true)) (.t 50)) ::
      .op (some 52) (.mv (.t 51)) ::
      .gd 52 false (some 53) (.op (some 53) (.mv (.t 4))) ::
      .gd 52 false (some 54) (.op (some 54) (.bi .eql (.t 53) (.c (.i .u8 34)))) ::
      .op (some 55) (.pk (.t 52) (.c (.b true)) (.t 54)) ::
      []))
  (.cond (.t 55) (.seq (.ops [.op (some 2) (.mv (.c (.b false)))])
    .ret)
    .skip))))
  (.ops [.op (some 17) (.mv (.t 3)),
      .op (some 18) (.bi .add (.t 17) (.c (.i .i64 1))),
      .op (some 3) (.mv (.t 18))]))))))
  (.seq (.ops [.op (some 2) (.mv (.c (.b true)))])
  .ret))))
theorem s126_ok : fnOk Go.Proofs.Try.prog Go.Proofs.Try.f126 ⟨56, [.t 2], b126⟩ = true := by kernel_rfl
def ref01_Name.L2 (s1 : ByteArray) : List UInt8 → Nat → Bool
  | [], i3 => true
  | e4 :: rest, i3 => (bif ((decide ((UInt8.toNat e4 : Int) < 33)) || ((decide (126 < (UInt8.toNat e4 : Int))) || ((decide ((UInt8.toNat e4 : Int) = 40)) || ((decide ((UInt8.toNat e4 : Int) = 41)) || ((decide ((UInt8.toNat e4 : Int) = 44)) || ((decide ((UInt8.toNat e4 : Int) = 58)) || ((decide ((UInt8.toNat e4 : Int) = 92)) || ((decide ((UInt8.toNat e4 : Int) = 46)) || (decide ((UInt8.toNat e4 : Int) = 34)))))))))) then false else ((ref01_Name.L2 s1 rest) (i3 + 1)))
def ref01_Name (s1 : ByteArray) : Bool := (bif ((decide ((ByteArray.size s1 : Int) < 1)) || (decide (30 < (ByteArray.size s1 : Int)))) then false else (ref01_Name.L2 s1 ((ByteArray.data s1).toList) 0))
theorem ref01_Name_pc (s1 : ByteArray) : PC Go.Proofs.Try.prog 126 [.s s1] (.b (ref01_Name s1)) := by
  obtain ⟨r, hF⟩ : ∃ r, ref01_Name s1 = r := ⟨_, rfl⟩
  rw [hF]
  refine PC_z Go.Proofs.Try.func126 s126_ok (Nat.le_of_ble_eq_true rfl) fun hf => ?_
  unfold b126 start
  unfold ref01_Name at hF
  try simp -dsimp only [go_sem]
  refine zcut_of (fun s => s = ⟨[(0, .s s1), (12, .b ((decide ((ByteArray.size s1 : Int) < 1)) || (decide (30 < (ByteArray.size s1 : Int)))))], []⟩) ?_ ?_
  · skip
    try simp -dsimp only [go_sem]
    refine zif_of (fun h1 => ?_) (fun h1 => ?_)
    · skip
      try simp -dsimp only [go_sem, h1]
      exact ⟨_, (Wks.ok (by simp -dsimp only [go_sem, h1])), rfl⟩
    · skip
      try simp -dsimp only [go_sem, h1]
      exact ⟨_, (Wks.ok (by simp -dsimp only [go_sem, h1])), rfl⟩
  rintro _ rfl hfit
  try simp -dsimp only [go_sem]
  refine zif_of (fun h2 => ?_) (fun h2 => ?_)
  · skip
    replace hF := cond_t h2 hF
    subst hF
    simp -dsimp only [go_sem, h2]
  · skip
    replace hF := cond_f h2 hF
    try simp -dsimp only [go_sem, h2]
    refine zloop_of (fun m s => ∃ (rest2 : List UInt8) (i3 : Nat), List.drop i3 ((ByteArray.data s1).toList) = rest2 ∧ List.length rest2 = m ∧ s = ⟨[(0, .s s1), (3, .i .i64 (i3 : Int))], []⟩ ∧ ref01_Name.L2 s1 rest2 i3 = r) (List.length ((ByteArray.data s1).toList)) ⟨_, (Wks.ok (by simp -dsimp only [go_sem, h2])), ((ByteArray.data s1).toList), 0, rfl, rfl, rfl, hF⟩ ?_
    clear hF
    rintro _ _ ⟨rest2, i3, hd2, rfl, rfl, hF⟩ hfit
    have h5 : ByteArray.size s1 ≤ LIM := by
      have h := hfit.t 0; simp only [e_lk, Nat.reduceBEq, cond_true, cond_false, Fit, FitL, ty_eq, tm_eq, List.length_map] at h; omega
    cases rest2 with
    | nil =>
      have h3 := dnS hd2
      unfold ref01_Name.L2 at hF
      subst hF
      simp -dsimp only [go_sem, h2, h3]
    | cons e4 rest2 =>
      obtain ⟨h3, h4, hd2⟩ := dcS hd2
      have h6 := wiS h3 h5
      unfold ref01_Name.L2 at hF
      try simp -dsimp only [go_sem, h2, h3, h4, h6]
      refine zcut_of (fun s => s = ⟨[(0, .s s1), (3, .i .i64 (i3 : Int)), (55, .b ((decide ((UInt8.toNat e4 : Int) < 33)) || ((decide (126 < (UInt8.toNat e4 : Int))) || ((decide ((UInt8.toNat e4 : Int) = 40)) || ((decide ((UInt8.toNat e4 : Int) = 41)) || ((decide ((UInt8.toNat e4 : Int) = 44)) || ((decide ((UInt8.toNat e4 : Int) = 58)) || ((decide ((UInt8.toNat e4 : Int) = 92)) || ((decide ((UInt8.toNat e4 : Int) = 46)) || (decide ((UInt8.toNat e4 : Int) = 34)))))))))))], []⟩) ?_ ?_
      · skip
        try simp -dsimp only [go_sem, h2, h3, h4, h6]
        refine zif_of (fun h7 => ?_) (fun h7 => ?_)
        · skip
          try simp -dsimp only [go_sem, h2, h3, h4, h6, h7]
          exact ⟨_, (Wks.ok (by simp -dsimp only [go_sem, h2, h3, h4, h6, h7])), rfl⟩
        · skip
          try simp -dsimp only [go_sem, h2, h3, h4, h6, h7]
          refine zif_of (fun h8 => ?_) (fun h8 => ?_)
          · skip
            try simp -dsimp only [go_sem, h2, h3, h4, h6, h7, h8]
            exact ⟨_, (Wks.ok (by simp -dsimp only [go_sem, h2, h3, h4, h6, h7, h8])), rfl⟩
          · skip
            try simp -dsimp only [go_sem, h2, h3, h4, h6, h7, h8]
            refine zif_of (fun h9 => ?_) (fun h9 => ?_)
            · skip
              try simp -dsimp only [go_sem, h2, h3, h4, h6, h7, h8, h9]
              exact ⟨_, (Wks.ok (by simp -dsimp only [go_sem, h2, h3, h4, h6, h7, h8, h9])), rfl⟩
            · skip
              try simp -dsimp only [go_sem, h2, h3, h4, h6, h7, h8, h9]
              refine zif_of (fun h10 => ?_) (fun h10 => ?_)
              · skip
                try simp -dsimp only [go_sem, h2, h3, h4, h6, h7, h8, h9, h10]
                exact ⟨_, (Wks.ok (by simp -dsimp only [go_sem, h2, h3, h4, h6, h7, h8, h9, h10])), rfl⟩
              · skip
                try simp -dsimp only [go_sem, h2, h3, h4, h6, h7, h8, h9, h10]
                refine zif_of (fun h11 => ?_) (fun h11 => ?_)
                · skip
                  try simp -dsimp only [go_sem, h2, h3, h4, h6, h7, h8, h9, h10, h11]
                  exact ⟨_, (Wks.ok (by simp -dsimp only [go_sem, h2, h3, h4, h6, h7, h8, h9, h10, h11])), rfl⟩
                · skip
                  try simp -dsimp only [go_sem, h2, h3, h4, h6, h7, h8, h9, h10, h11]
                  refine zif_of (fun h12 => ?_) (fun h12 => ?_)
                  · skip
                    try simp -dsimp only [go_sem, h2, h3, h4, h6, h7, h8, h9, h10, h11, h12]
                    exact ⟨_, (Wks.ok (by simp -dsimp only [go_sem, h2, h3, h4, h6, h7, h8, h9, h10, h11, h12])), rfl⟩
                  · skip
                    try simp -dsimp only [go_sem, h2, h3, h4, h6, h7, h8, h9, h10, h11, h12]
                    refine zif_of (fun h13 => ?_) (fun h13 => ?_)
                    · skip
                      try simp -dsimp only [go_sem, h2, h3, h4, h6, h7, h8, h9, h10, h11, h12, h13]
                      exact ⟨_, (Wks.ok (by simp -dsimp only [go_sem, h2, h3, h4, h6, h7, h8, h9, h10, h11, h12, h13])), rfl⟩
                    · skip
                      try simp -dsimp only [go_sem, h2, h3, h4, h6, h7, h8, h9, h10, h11, h12, h13]
                      refine zif_of (fun h14 => ?_) (fun h14 => ?_)
                      · skip
                        try simp -dsimp only [go_sem, h2, h3, h4, h6, h7, h8, h9, h10, h11, h12, h13, h14]
                        exact ⟨_, (Wks.ok (by simp -dsimp only [go_sem, h2, h3, h4, h6, h7, h8, h9, h10, h11, h12, h13, h14])), rfl⟩
                      · skip
                        try simp -dsimp only [go_sem, h2, h3, h4, h6, h7, h8, h9, h10, h11, h12, h13, h14]
                        exact ⟨_, (Wks.ok (by simp -dsimp only [go_sem, h2, h3, h4, h6, h7, h8, h9, h10, h11, h12, h13, h14])), rfl⟩
      rintro _ rfl hfit
      try simp -dsimp only [go_sem, h2, h3, h4, h6]
      refine zif_of (fun h15 => ?_) (fun h15 => ?_)
      · skip
        replace hF := cond_t h15 hF
        subst hF
        simp -dsimp only [go_sem, h2, h3, h4, h6, h15]
      · skip
        replace hF := cond_f h15 hF
        try simp -dsimp only [go_sem, h2, h3, h4, h6, h15]
        exact ⟨List.length rest2, _, Nat.lt_succ_self _, (Wks.ok (by simp -dsimp only [go_sem, h2, h3, h4, h6, h15])), rest2, i3 + 1, hd2, rfl, rfl, hF⟩
theorem ref01_Name_eq (s : ByteArray) : ref01_Name s = nameB s := by
  have key : ∀ (r : List UInt8) (i : Nat), ref01_Name.L2 s r i = goodL r := by
    intro r
    induction r with
    | nil => intro i; rfl
    | cons c l ih =>
      intro i
      simp only [ref01_Name.L2, goodL, ih]
      unfold badC
      simp only [Bool.cond_eq_ite]
      grind
  unfold ref01_Name nameB
  rw [key]
  simp only [Bool.cond_eq_ite]
  grind
theorem types_name_eq (s : ByteArray) : types_name s = nameB s := by
  have key : ∀ (r : List UInt8) (i : Nat), types_name.L1 s r i = (goodL r && ((!decide (s = ⟨#[]⟩)) && decide ((s.size : Int) ≤ 30))) := by
    intro r
    induction r with
    | nil => intro i; simp [types_name.L1, goodL]
    | cons c l ih =>
      intro i
      simp only [types_name.L1, goodL, ih]
      unfold badC
      simp only [Bool.cond_eq_ite]
      grind
  unfold types_name nameB
  rw [key]
  have h : (s = ⟨#[]⟩) ↔ ¬ 1 ≤ s.size := by
    constructor
    · rintro rfl; decide
    · intro h
      have h0 : s.data.size = 0 := by have : s.size = s.data.size := rfl; omega
      exact ByteArray.ext (Array.eq_empty_of_size_eq_zero h0)
  simp only [h]
  grind
theorem name_get {s : ByteArray} (h : nameB s = true) : ∃ c : UInt8, s.data[0]? = some c ∧ (c.toNat : Int) = fstC s := by
  simp only [nameB, Bool.and_eq_true, decide_eq_true_eq] at h
  have hs : 0 < s.data.size := h.1
  refine ⟨s.data[0], Array.getElem?_eq_getElem hs, ?_⟩
  simp [fstC, Array.getElem?_eq_getElem hs]
theorem name_ixS {s : ByteArray} (h : nameB s = true) : ixS s 0 = some (fstC s) := by
  obtain ⟨c, h1, h2⟩ := name_get h
  have := ixS_nat s 0
  simp only [Int.natCast_zero, h1, Option.map_some, h2] at this
  exact this
/-- sequent/types.variable -/
def b139 : SCode :=
  (.seq (.ops [.op (some 2) (.mv (.c (.b false)))])
  (cutS (.ops [.op (some 3) (.mv (.t 0)),
      .call (some 4) (.c (.fn (.func 140) [] [])) [(.t 3)],
      .op (some 5) (.mv (.t 4)),
      .gd 5 true (some 6) (.op (some 6) (.mv (.t 0))),
      .gd 5 true (some 7) (.op (some 7) (.ix (.t 6) (.c (.i .i64 0)))),
      .gd 5 true (some 8) (.op (some 8) (.bi .eql (.t 7) (.c (.i .u8 39)))),
      .op (some 9) (.pk (.t 5) (.t 8) (.c (.b false))),
      .op (some 2) (.mv (.t 9))])
  .ret))
theorem s139_ok : fnOk Go.Proofs.Try.prog Go.Proofs.Try.f139 ⟨10, [.t 2], b139⟩ = true := by kernel_rfl
def types_variable.J1 (x3 : Bool) : Option (Bool) := some x3
def types_variable (s1 : ByteArray) : Option (Bool) := (bif (types_name s1) then (Option.bind (ixS s1 0) fun c2 => (types_variable.J1 (decide (c2 = 39)))) else (types_variable.J1 false))
theorem types_variable_pc (s1 : ByteArray) (r : Bool) (hF : types_variable s1 = some r) : PC Go.Proofs.Try.prog 139 [.s s1] (.b r) := by
  obtain ⟨z, hr⟩ : ∃ z, some r = some z := ⟨_, rfl⟩
  refine PC_z Go.Proofs.Try.func139 s139_ok (Nat.le_of_ble_eq_true rfl) fun hf => ?_
  unfold b139 start
  unfold types_variable at hF
  try simp -dsimp only [go_sem]
  refine zcut_of (fun s => ∃ (x3 : Bool), s = ⟨[(2, .b x3)], []⟩ ∧ types_variable.J1 x3 = some r) ?_ ?_
  · skip
    try simp -dsimp only [go_sem]
    refine call_ok (types_name_pc s1 ) (by simp -dsimp only [go_sem]) ?_
    try simp -dsimp only [go_sem]
    refine zif_of (fun h2 => ?_) (fun h2 => ?_)
    · skip
      replace hF := cond_t h2 hF
      obtain ⟨c2, h3, hF⟩ := bind_of hF hr
      obtain ⟨h4, c, h3, h5⟩ := ixS_of h3
      simp only [Int.reduceToNat] at h3
      try simp -dsimp only [go_sem, h2, h3, h5]
      exact ⟨_, (Wks.ok (by simp -dsimp only [go_sem, h2, h3, h5])), (decide (c2 = 39)), rfl, hF⟩
    · skip
      replace hF := cond_f h2 hF
      try simp -dsimp only [go_sem, h2]
      exact ⟨_, (Wks.ok (by simp -dsimp only [go_sem, h2])), false, rfl, hF⟩
  clear hF
  rintro _ ⟨x3, rfl, hF⟩ hfit
  unfold types_variable.J1 at hF
  cases hF
  simp -dsimp only [go_sem]
theorem types_variable_eq (s : ByteArray) : types_variable s = some (nameB s && decide (fstC s = 39)) := by
  unfold types_variable types_variable.J1
  rw [types_name_eq]
  cases h : nameB s
  · rfl
  · simp [name_ixS h]
/-- sequent/types.measure -/
def b135 : SCode :=
  (.seq (.ops [.op (some 1) (.bx (.t 0)),
      .op (some 2) (.mv (.c (.i .i64 0))),
      .op (some 3) (.mv (.c (.i .i64 0))),
      .op (some 4) (.mv (.c (.b false)))])
  (.seq (.ops [.op (some 2) (.mv (.c (.i .i64 1)))])
  (cutS (.seq (.ops [.op (some 10) (.fa (.t 1) 0),
      .op (some 11) (.ld (.t 10) 1 false)])
  (.cond (.t 11) (.ops [.op (some 12) (.fa (.t 1) 1),
        .op (some 13) (.ld (.t 12) 1 false),
        .call (some 14) (.c (.fn (.func 139) [] [])) [(.t 13)],
        .op (some 15) (.mv (.t 14)),
        .gd 15 true (some 16) (.op (some 16) (.fa (.t 1) 2)),
        .gd 15 true (some 17) (.op (some 17) (.ld (.t 16) 1 false)),
        .gd 15 true (some 18) (.op (some 18) (.len (.t 17))),
        .gd 15 true (some 19) (.op (some 19) (.bi .eql (.t 18) (.c (.i .i64 0)))),
        .op (some 20) (.pk (.t 15) (.t 19) (.c (.b false))),
        .op (some 4) (.mv (.t 20))])
    (.ops [.op (some 21) (.fa (.t 1) 1),
        .op (some 22) (.ld (.t 21) 1 false),
        .call (some 23) (.c (.fn (.func 140) [] [])) [(.t 22)],
        .op (some 24) (.mv (.t 23)),
        .gd 24 true (some 25) (.op (some 25) (.fa (.t 1) 1)),
        .gd 24 true (some 26) (.op (some 26) (.ld (.t 25) 1 false)),
        .gd 24 true (some 27) (.op (some 27) (.ix (.t 26) (.c (.i .i64 0)))),
        .gd 24 true (some 28) (.op (some 28) (.bi .neq (.t 27) (.c (.i .u8 39)))),
        .op (some 29) (.pk (.t 24) (.t 28) (.c (.b false))),
        .op (some 30) (.mv (.t 29)),
        .gd 30 true (some 31) (.op (some 31) (.fa (.t 1) 2)),
        .gd 30 true (some 32) (.op (some 32) (.ld (.t 31) 1 false)),
        .gd 30 true (some 33) (.op (some 33) (.len (.t 32))),
        .gd 30 true (some 34) (.op (some 34) (.bi .leq (.t 33) (.c (.i .i64 8)))),
        .op (some 35) (.pk (.t 30) (.t 34) (.c (.b false))),
        .op (some 4) (.mv (.t 35))])))
  (.seq (.seq (.ops [.op (some 36) (.fa (.t 1) 2),
      .op (some 37) (.ld (.t 36) 1 false),
      .op (some 38) (.len (.t 37)),
      .op (some 39) (.mv (.c (.i .i64 0)))])
  (.block 0 (.loop (.seq (.ops [.op (some 40) (.bi .lss (.t 39) (.t 38))])
  (.seq (.cond (.t 40) .skip
    (.exit 0))
  (cutS (.block 1 (.seq (.ops [.op (some 41) (.ia 3 (.t 37) (.t 39)),
      .op (some 42) (.ld (.t 41) 3 true),
      .op (some 6) (.alm 24 zTy),
      .op none (.st (.t 6) 3 (.t 42))])
  (.seq (.ops [.op (some 44) (.ld (.t 6) 3 true),
      .call (some 45) (.c (.fn (.func 135) [] [])) [(.t 44)],
      .op (some 43) (.mv (.t 45)),
      .op (some 46) (.ext (.t 43) 0),
      .op (some 47) (.ext (.t 43) 1),
      .op (some 48) (.ext (.t 43) 2),
      .op (some 7) (.mv (.t 46)),
      .op (some 8) (.mv (.t 47)),
      .op (some 9) (.mv (.t 48))])
  (.ops [.op (some 49) (.mv (.t 2)),
      .op (some 50) (.mv (.t 7)),
      .op (some 51) (.bi .add (.t 49) (.t 50)),
      .op (some 52) (.mv (.t 3)),
      .op (some 53) (.mv (.t 8)),
      .op (some 54) (.mx (.t 52) (.t 53)),
      .op (some 55) (.mv (.t 4)),
      .op (some 56) (.mv (.t 55)),
      .gd 56 true (some 57) (.op (some 57) (.mv (.t 9))),
      .op (some 58) (.pk (.t 56) (.t 57) (.c (.b false))),
      .op (some 2) (.mv (.t 51)),
      .op (some 3) (.mv (.t 54)),
      .op (some 4) (.mv (.t 58))]))))
  (.ops [.op (some 59) (.bi .add (.t 39) (.c (.i .i64 1))),
      .op (some 39) (.mv (.t 59))])))))))
  (.seq (.ops [.op (some 60) (.mv (.t 2)),
      .op (some 61) (.mv (.t 3)),
      .op (some 62) (.bi .add (.t 61) (.c (.i .i64 1))),
      .op (some 63) (.mv (.t 4)),
      .op (some 2) (.mv (.t 60)),
      .op (some 3) (.mv (.t 62)),
      .op (some 4) (.mv (.t 63))])
  .ret)))))
theorem s135_ok : fnOk Go.Proofs.Try.prog Go.Proofs.Try.f135 ⟨64, [.t 2, .t 3, .t 4], b135⟩ = true := by kernel_rfl
def types_measure.J5 (self : Ty → Option (Int × Int × Bool)) (bk2 : Nat → Int → Int → Bool → Option (Int × Int × Bool)) (size8 : Int) (r13 : (Int × Int × Bool)) (deep9 : Int) (ok14 : Bool) (t1 : Ty) (x11 : Nat) (e12 : Ty) : Option (Int × Int × Bool) := (bk2 (x11 + 1) (IntKind.i64.wrap (size8 + r13.1)) (max deep9 r13.2.1) ok14)
def types_measure.L2 (self : Ty → Option (Int × Int × Bool)) (t1 : Ty) : List Ty → Nat → Int → Int → Bool → Option (Int × Int × Bool)
  | [], x11, size8, deep9, ok10 => some (size8, (IntKind.i64.wrap (deep9 + 1)), ok10)
  | e12 :: rest, x11, size8, deep9, ok10 => (Option.bind (self e12) fun r13 => (bif ok10 then (types_measure.J5 self (types_measure.L2 self t1 rest) size8 r13 deep9 r13.2.2 t1 x11 e12) else (types_measure.J5 self (types_measure.L2 self t1 rest) size8 r13 deep9 false t1 x11 e12)))
def types_measure.J1 (self : Ty → Option (Int × Int × Bool)) (t1 : Ty) (ok4 : Bool) : Option (Int × Int × Bool) := (types_measure.L2 self t1 t1.a 0 1 0 ok4)
def types_measure.body (self : Ty → Option (Int × Int × Bool)) (t1 : Ty) : Option (Int × Int × Bool) := (bif t1.v then (Option.bind (types_variable t1.n) fun r2 => (bif r2 then (types_measure.J1 self t1 (decide ((List.length t1.a : Int) = 0))) else (types_measure.J1 self t1 false))) else (bif (types_name t1.n) then (Option.bind (ixS t1.n 0) fun c3 => (bif (!decide (c3 = 39)) then (types_measure.J1 self t1 (decide ((List.length t1.a : Int) ≤ 8))) else (types_measure.J1 self t1 false))) else (types_measure.J1 self t1 false)))
theorem types_measure.body_pc (self : Ty → Option (Int × Int × Bool)) (t1 : Ty) (hself : ∀ a0 r, self a0 = some r → PC Go.Proofs.Try.prog 135 [.agg (tyC a0)] (.tup [.i .i64 r.1, .i .i64 r.2.1, .b r.2.2])) (r : Int × Int × Bool) (hF : types_measure.body self t1 = some r) : PC Go.Proofs.Try.prog 135 [.agg (tyC t1)] (.tup [.i .i64 r.1, .i .i64 r.2.1, .b r.2.2]) := by
  obtain ⟨z, hr⟩ : ∃ z, some r = some z := ⟨_, rfl⟩
  refine PC_z Go.Proofs.Try.func135 s135_ok (Nat.le_of_ble_eq_true rfl) fun hf => ?_
  unfold b135 start
  unfold types_measure.body at hF
  try simp -dsimp only [go_sem]
  refine zcut_of (fun s => ∃ (ok4 : Bool), s = ⟨[(1, .ip (tyC t1)), (2, .i .i64 1), (3, .i .i64 0), (4, .b ok4)], []⟩ ∧ types_measure.J1 self t1 ok4 = some r) ?_ ?_
  · skip
    try simp -dsimp only [go_sem]
    refine zif_of (fun h2 => ?_) (fun h2 => ?_)
    · skip
      replace hF := cond_t h2 hF
      obtain ⟨r2, h3, hF⟩ := bind_of hF hr
      try simp -dsimp only [go_sem, h2]
      refine call_ok (types_variable_pc t1.n  _ h3) (by simp -dsimp only [go_sem, h2]) ?_
      try simp -dsimp only [go_sem, h2]
      refine zif_of (fun h4 => ?_) (fun h4 => ?_)
      · skip
        replace hF := cond_t h4 hF
        try simp -dsimp only [go_sem, h2, h4]
        exact ⟨_, (Wks.ok (by simp -dsimp only [go_sem, h2, h4])), (decide ((List.length t1.a : Int) = 0)), rfl, hF⟩
      · skip
        replace hF := cond_f h4 hF
        try simp -dsimp only [go_sem, h2, h4]
        exact ⟨_, (Wks.ok (by simp -dsimp only [go_sem, h2, h4])), false, rfl, hF⟩
    · skip
      replace hF := cond_f h2 hF
      try simp -dsimp only [go_sem, h2]
      refine call_ok (types_name_pc t1.n ) (by simp -dsimp only [go_sem, h2]) ?_
      try simp -dsimp only [go_sem, h2]
      refine zif_of (fun h5 => ?_) (fun h5 => ?_)
      · skip
        replace hF := cond_t h5 hF
        obtain ⟨c3, h6, hF⟩ := bind_of hF hr
        obtain ⟨h7, c, h6, h8⟩ := ixS_of h6
        simp only [Int.reduceToNat] at h6
        try simp -dsimp only [go_sem, h2, h5, h6, h8]
        refine zif_of (fun h9 => ?_) (fun h9 => ?_)
        · skip
          replace hF := cond_t h9 hF
          try simp -dsimp only [go_sem, h2, h5, h6, h8, h9]
          exact ⟨_, (Wks.ok (by simp -dsimp only [go_sem, h2, h5, h6, h8, h9])), (decide ((List.length t1.a : Int) ≤ 8)), rfl, hF⟩
        · skip
          replace hF := cond_f h9 hF
          try simp -dsimp only [go_sem, h2, h5, h6, h8, h9]
          exact ⟨_, (Wks.ok (by simp -dsimp only [go_sem, h2, h5, h6, h8, h9])), false, rfl, hF⟩
      · skip
        replace hF := cond_f h5 hF
        try simp -dsimp only [go_sem, h2, h5]
        exact ⟨_, (Wks.ok (by simp -dsimp only [go_sem, h2, h5])), false, rfl, hF⟩
  clear hF
  rintro _ ⟨ok4, rfl, hF⟩ hfit
  unfold types_measure.J1 at hF
  try simp -dsimp only [go_sem]
  refine zloop_of (fun m s => ∃ (rest2 : List Ty) (x11 : Nat) (size8 : Int) (deep9 : Int) (ok10 : Bool), List.drop x11 t1.a = rest2 ∧ List.length rest2 = m ∧ s = ⟨[(2, .i .i64 size8), (3, .i .i64 deep9), (4, .b ok10), (37, .sl false 3 (List.map tyC t1.a)), (38, .i .i64 (List.length t1.a : Int)), (39, .i .i64 (x11 : Int))], []⟩ ∧ types_measure.L2 self t1 rest2 x11 size8 deep9 ok10 = some r) (List.length t1.a) ⟨_, (Wks.ok (by simp -dsimp only [go_sem])), t1.a, 0, 1, 0, ok4, rfl, rfl, rfl, hF⟩ ?_
  clear hF
  rintro _ _ ⟨rest2, x11, size8, deep9, ok10, hd2, rfl, rfl, hF⟩ hfit
  have h12 : List.length t1.a ≤ LIM := by
    have h := hfit.t 37; simp only [e_lk, Nat.reduceBEq, cond_true, cond_false, Fit, FitL, ty_eq, tm_eq, List.length_map] at h; omega
  cases rest2 with
  | nil =>
    have h10 := dn hd2
    unfold types_measure.L2 at hF
    cases hF
    simp -dsimp only [go_sem, h10]
  | cons e12 rest2 =>
    obtain ⟨h10, h11, hd2⟩ := dc hd2
    have h13 := wi h10 h12
    unfold types_measure.L2 at hF
    try simp -dsimp only [go_sem, h10, h11, h13]
    refine zcut_of (fun s => ∃ (r13 : (Int × Int × Bool)) (ok14 : Bool), s = ⟨[(2, .i .i64 (IntKind.i64.wrap (size8 + r13.1))), (3, .i .i64 (max deep9 r13.2.1)), (4, .b ok14), (37, .sl false 3 (List.map tyC t1.a)), (38, .i .i64 (List.length t1.a : Int)), (39, .i .i64 (x11 : Int))], []⟩ ∧ types_measure.J5 self (types_measure.L2 self t1 rest2) size8 r13 deep9 ok14 t1 x11 e12 = some r) ?_ ?_
    · skip
      obtain ⟨r13, h15, hF⟩ := bind_of hF hr
      try simp -dsimp only [go_sem, h10, h11, h13]
      refine call_ok (hself e12  _ h15) (by simp -dsimp only [go_sem, h10, h11, h13]) ?_
      try simp -dsimp only [go_sem, h10, h11, h13]
      refine zif_of (fun h16 => ?_) (fun h16 => ?_)
      · skip
        replace hF := cond_t h16 hF
        try simp -dsimp only [go_sem, h10, h11, h13, h16]
        exact ⟨_, (Wks.ok (by simp -dsimp only [go_sem, h10, h11, h13, h16])), r13, r13.2.2, rfl, hF⟩
      · skip
        replace hF := cond_f h16 hF
        try simp -dsimp only [go_sem, h10, h11, h13, h16]
        exact ⟨_, (Wks.ok (by simp -dsimp only [go_sem, h10, h11, h13, h16])), r13, false, rfl, hF⟩
    clear hF
    rintro _ ⟨r13, ok14, rfl, hF⟩ hfit
    unfold types_measure.J5 at hF
    try simp -dsimp only [go_sem, h10, h11, h13]
    exact ⟨List.length rest2, _, Nat.lt_succ_self _, (Wks.ok (by simp -dsimp only [go_sem, h10, h11, h13])), rest2, x11 + 1, (IntKind.i64.wrap (size8 + r13.1)), (max deep9 r13.2.1), ok14, hd2, rfl, rfl, hF⟩
def types_measure.fu : Nat → Ty → Option (Int × Int × Bool)
  | 0 => fun _ => none
  | n + 1 => types_measure.body (types_measure.fu n)
theorem types_measure.fu_pc : ∀ (n : Nat) (a0 : Ty) (r : Int × Int × Bool), types_measure.fu n a0 = some r → PC Go.Proofs.Try.prog 135 [.agg (tyC a0)] (.tup [.i .i64 r.1, .i .i64 r.2.1, .b r.2.2])
  | 0, a0, r, h => by cases h
  | n + 1, a0, r, h => types_measure.body_pc (types_measure.fu n) a0 (types_measure.fu_pc n) r h
/-- What measure answers: size, depth, whether formed. -/
def meaY (t : Ty) : Int × Int × Bool := ((szY t : Int), (dpY t : Int), shapeY t)
theorem types_measure_ok (t : Ty) (self : Ty → Option (Int × Int × Bool)) (hs : ∀ x ∈ t.a, self x = some (meaY x)) (hb : bkY t ≤ 2 ^ 40) : types_measure.body self t = some (meaY t) := by
  have hsz := szY_bk t
  have hdp := dpY_le t
  have key : ∀ (rest : List Ty) (i : Nat) (size deep : Int) (ok : Bool), (∀ x ∈ rest, x ∈ t.a) → 0 ≤ size → size + szYs rest ≤ 2 ^ 40 → 0 ≤ deep → deep ≤ 2 ^ 40 → (dpYs rest : Int) ≤ 2 ^ 40 →
      types_measure.L2 self t rest i size deep ok = some (size + szYs rest, max deep (dpYs rest) + 1, ok && shapeYs rest) := by
    intro rest
    induction rest with
    | nil =>
      intro i size deep ok _ h1 h2 h3 h4 h5
      simp only [types_measure.L2, szYs, dpYs, shapeYs]
      rw [wr64 (by omega) (by omega)]
      simp only [Int.natCast_zero, Int.add_zero, Bool.and_true]
      rw [Int.max_eq_left h3]
    | cons x l ih =>
      intro i size deep ok hm h1 h2 h3 h4 h5
      simp only [szYs, dpYs] at h2 h5
      simp only [types_measure.L2, types_measure.J5, hs x (hm x (List.mem_cons_self ..)), Option.bind_some, meaY, szYs, dpYs, shapeYs]
      rw [wr64 (by omega) (by omega)]
      have k := fun ok => ih (i + 1) (size + szY x) (max deep (dpY x)) ok (fun z hz => hm z (List.mem_cons_of_mem _ hz)) (by omega) (by omega) (by omega) (by omega) (by omega)
      rw [k, k]
      cases ok <;> simp <;> omega
  have h1 := szY_eq t
  have h2 := dpY_eq t
  have k := fun ok => key t.a 0 1 0 ok (fun _ h => h) (by omega) (by omega) (by omega) (by omega) (by omega)
  have e1 : (1 : Int) + (szYs t.a : Int) = (szY t : Int) := by omega
  have e2 : max (0 : Int) (dpYs t.a : Int) + 1 = (dpY t : Int) := by omega
  unfold types_measure.body types_measure.J1
  simp only [k, types_variable_eq, types_name_eq, Option.bind_some, e1, e2]
  unfold meaY
  rw [shapeY_eq]
  cases hn : nameB t.n
  · cases t.v <;> simp
  · simp only [name_ixS hn, Option.bind_some]
    have e3 : ((t.a.length : Int) = 0) ↔ t.a.length = 0 := by omega
    have e4 : ((t.a.length : Int) ≤ 8) ↔ t.a.length ≤ 8 := by omega
    simp only [e3, e4]
    cases t.v <;> by_cases h : fstC t.n = 39 <;> simp [h]
theorem meaY_pc : ∀ (t : Ty) (r : Int × Int × Bool), og (bkY t ≤ 2 ^ 40) (meaY t) = some r → PC Go.Proofs.Try.prog 135 [.agg (tyC t)] (.tup [.i .i64 r.1, .i .i64 r.2.1, .b r.2.2]) :=
  Ty.ind fun t ih r hr => by
    obtain ⟨hb, rfl⟩ := og_of hr
    refine types_measure.body_pc _ t (fun x r h => ?_) _ (types_measure_ok t (fun x => og (x ∈ t.a) (meaY x)) (fun x h => og_pos h) hb)
    obtain ⟨h1, rfl⟩ := og_of h
    have := bkY_eq t
    have := bkYs_mem h1
    exact ih x h1 _ (og_pos (by omega))
noncomputable def meaYo (t : Ty) : Option (Int × Int × Bool) := og (bkY t ≤ 2 ^ 40) (meaY t)
/-- sequent/types.Check -/
def b125 : SCode :=
  (.seq (.ops [.op (some 1) (.bx (.t 0)),
      .op (some 2) (.mv (.c (.i .i64 0)))])
  (.seq (.seq (.ops [.op (some 7) (.ld (.t 1) 3 true),
      .call (some 8) (.c (.fn (.func 135) [] [])) [(.t 7)],
      .op (some 6) (.mv (.t 8)),
      .op (some 9) (.ext (.t 6) 0),
      .op (some 10) (.ext (.t 6) 1),
      .op (some 11) (.ext (.t 6) 2),
      .op (some 3) (.mv (.t 9)),
      .op (some 4) (.mv (.t 10)),
      .op (some 5) (.mv (.t 11))])
  (cutS (.ops [.op (some 12) (.mv (.t 5)),
      .op (some 13) (.un .not (.t 12)),
      .op (some 14) (.mv (.t 13)),
      .gd 14 false (some 15) (.op (some 15) (.mv (.t 3))),
      .gd 14 false (some 16) (.op (some 16) (.bi .gtr (.t 15) (.c (.i .i64 500)))),
      .op (some 17) (.pk (.t 14) (.c (.b true)) (.t 16)),
      .op (some 18) (.mv (.t 17)),
      .gd 18 false (some 19) (.op (some 19) (.mv (.t 4))),
      .gd 18 false (some 20) (.op (some 20) (.bi .gtr (.t 19) (.c (.i .i64 200)))),
      .op (some 21) (.pk (.t 18) (.c (.b true)) (.t 20))])
  (.cond (.t 21) (.seq (.ops [.op (some 2) (.mv (.c (.i .i64 10)))])
    .ret)
    .skip)))
  (.seq (.ops [.op (some 2) (.mv (.c (.i .i64 0)))])
  .ret)))
theorem s125_ok : fnOk Go.Proofs.Try.prog Go.Proofs.Try.f125 ⟨22, [.t 2], b125⟩ = true := by kernel_rfl
def types_Check (t1 : Ty) : Option (Int) := (Option.bind (meaYo t1) fun r2 => (bif ((!r2.2.2) || ((decide (500 < r2.1)) || (decide (200 < r2.2.1)))) then some 10 else some 0))
theorem types_Check_pc (t1 : Ty) (r : Int) (hF : types_Check t1 = some r) : PC Go.Proofs.Try.prog 125 [.agg (tyC t1)] (.i .i64 r) := by
  obtain ⟨z, hr⟩ : ∃ z, some r = some z := ⟨_, rfl⟩
  refine PC_z Go.Proofs.Try.func125 s125_ok (Nat.le_of_ble_eq_true rfl) fun hf => ?_
  unfold b125 start
  unfold types_Check at hF
  obtain ⟨r2, h1, hF⟩ := bind_of hF hr
  try simp -dsimp only [go_sem]
  refine call_ok (meaY_pc t1  _ h1) (by simp -dsimp only [go_sem]) ?_
  try simp -dsimp only [go_sem]
  refine zcut_of (fun s => s = ⟨[(21, .b ((!r2.2.2) || ((decide (500 < r2.1)) || (decide (200 < r2.2.1)))))], []⟩) ?_ ?_
  · skip
    try simp -dsimp only [go_sem]
    refine zif_of (fun h2 => ?_) (fun h2 => ?_)
    · skip
      try simp -dsimp only [go_sem, h2]
      exact ⟨_, (Wks.ok (by simp -dsimp only [go_sem, h2])), rfl⟩
    · skip
      try simp -dsimp only [go_sem, h2]
      refine zif_of (fun h3 => ?_) (fun h3 => ?_)
      · skip
        try simp -dsimp only [go_sem, h2, h3]
        exact ⟨_, (Wks.ok (by simp -dsimp only [go_sem, h2, h3])), rfl⟩
      · skip
        try simp -dsimp only [go_sem, h2, h3]
        exact ⟨_, (Wks.ok (by simp -dsimp only [go_sem, h2, h3])), rfl⟩
  rintro _ rfl hfit
  try simp -dsimp only [go_sem]
  refine zif_of (fun h4 => ?_) (fun h4 => ?_)
  · skip
    replace hF := cond_t h4 hF
    cases hF
    simp -dsimp only [go_sem, h4]
  · skip
    replace hF := cond_f h4 hF
    cases hF
    simp -dsimp only [go_sem, h4]
theorem types_Check_eq (t : Ty) (hb : bkY t ≤ 2 ^ 40) : types_Check t = some (if validY t = true then 0 else 10) := by
  unfold types_Check meaYo
  rw [og_pos hb]
  simp only [Option.bind_some, meaY, validY, Bool.cond_eq_ite]
  grind
/-- sequent/types.Twin -/
def b81 : SCode :=
  (.seq (.ops [.op (some 1) (.bxm 24 (.t 0)),
      .op (some 2) (.alm 24 zTy)])
  (.seq (.ops [.op (some 6) (.fa (.t 1) 2),
      .op (some 7) (.ld (.t 6) 1 false),
      .op (some 3) (.mv (.t 7))])
  (.seq (.ops [.op (some 8) (.fa (.t 1) 2),
      .op none (.st (.t 8) 1 (.c (.nils)))])
  (cutS (.seq (.ops [.op (some 9) (.mv (.t 3)),
      .op (some 10) (.len (.t 9)),
      .op (some 11) (.bi .gtr (.t 10) (.c (.i .i64 0)))])
  (.cond (.t 11) (.ops [.op (some 12) (.mv (.t 3)),
        .op (some 13) (.len (.t 12)),
        .op (some 14) (.mks 24 3 zTy (.t 13)),
        .op (some 15) (.fa (.t 1) 2),
        .op none (.st (.t 15) 1 (.t 14))])
    .skip))
  (.seq (.seq (.ops [.op (some 16) (.mv (.t 3)),
      .op (some 17) (.len (.t 16)),
      .op (some 18) (.mv (.c (.i .i64 0)))])
  (.block 0 (.loop (.seq (.ops [.op (some 19) (.bi .lss (.t 18) (.t 17))])
  (.seq (.cond (.t 19) .skip
    (.exit 0))
  (.seq (.block 1 (.seq (.ops [.op (some 20) (.mv (.t 18)),
      .op (some 21) (.ia 3 (.t 16) (.t 18)),
      .op (some 22) (.ld (.t 21) 3 true),
      .op (some 5) (.alm 24 zTy),
      .op (some 4) (.mv (.t 20)),
      .op none (.st (.t 5) 3 (.t 22))])
  (.draw [.op (some 23) (.fa (.t 1) 2),
      .op (some 24) (.ld (.t 23) 1 false),
      .op (some 25) (.mv (.t 4)),
      .op (some 26) (.ld (.t 5) 3 true),
      .call (some 27) (.c (.fn (.func 81) [] [])) [(.t 26)],
      .op (some 28) (.ia 3 (.t 24) (.t 25)),
      .op none (.st (.t 28) 3 (.t 27))])))
  (.ops [.op (some 29) (.bi .add (.t 18) (.c (.i .i64 1))),
      .op (some 18) (.mv (.t 29))])))))))
  (.seq (.ops [.op (some 30) (.ld (.t 1) 3 true),
      .op none (.st (.t 2) 3 (.t 30))])
  .ret))))))
theorem s81_ok : fnOk Go.Proofs.Try.prog Go.Proofs.Try.f81 ⟨31, [.c 2 3 true], b81⟩ = true := by kernel_rfl
def types_Twin.L2 (self : Ty → Option (Ty)) (t1 : Ty) : List Ty → Nat → (List Ty) → Option (Ty)
  | [], x6, ls5 => some (Ty.mk t1.v t1.n ls5)
  | e7 :: rest, x6, ls5 => (Option.bind (self e7) fun r8 => (if 0 ≤ (x6 : Int) ∧ (x6 : Int) < List.length ls5 then ((types_Twin.L2 self t1 rest) (x6 + 1) (List.set ls5 x6 r8)) else none))
def types_Twin.J1 (self : Ty → Option (Ty)) (t1 : Ty) (ls2 : (List Ty)) : Option (Ty) := (types_Twin.L2 self t1 t1.a 0 ls2)
def types_Twin.body (self : Ty → Option (Ty)) (t1 : Ty) : Option (Ty) := (bif (decide (0 < (List.length t1.a : Int))) then (if (List.length t1.a) ≤ LIM then (types_Twin.J1 self t1 (List.replicate (List.length t1.a) (Ty.mk false (⟨#[]⟩ : ByteArray) []))) else none) else (types_Twin.J1 self t1 []))
theorem types_Twin.body_pc (self : Ty → Option (Ty)) (t1 : Ty) (hself : ∀ a0 r, self a0 = some r → PC Go.Proofs.Try.prog 81 [.agg (tyC a0)] (.agg (tyC r))) (r : Ty) (hF : types_Twin.body self t1 = some r) : PC Go.Proofs.Try.prog 81 [.agg (tyC t1)] (.agg (tyC r)) := by
  obtain ⟨z, hr⟩ : ∃ z, some r = some z := ⟨_, rfl⟩
  refine PC_z Go.Proofs.Try.func81 s81_ok (Nat.le_of_ble_eq_true rfl) fun hf => ?_
  unfold b81 start
  unfold types_Twin.body at hF
  try simp -dsimp only [go_sem]
  refine zcut_of (fun s => ∃ (ls2 : (List Ty)), s = ⟨[(1, .ptr 0 0), (2, .ptr 1 0), (3, .sl false 3 (List.map tyC t1.a))], [.box 24 ([.b t1.v, .s t1.n, .row 2]), .box 24 ([.b false, .s (⟨#[]⟩ : ByteArray), .nils]), .row 24 3 (List.map tyC ls2)]⟩ ∧ types_Twin.J1 self t1 ls2 = some r) ?_ ?_
  · skip
    try simp -dsimp only [go_sem]
    refine zif_of (fun h2 => ?_) (fun h2 => ?_)
    · skip
      replace hF := cond_t h2 hF
      obtain ⟨h3, hF⟩ := ite_of hF hr
      have h3t := eq_true h3
      try simp -dsimp only [go_sem, h2, h3t]
      exact ⟨_, (Wks.ok (by simp -dsimp only [go_sem, h2, h3t])), (List.replicate (List.length t1.a) (Ty.mk false (⟨#[]⟩ : ByteArray) [])), rfl, hF⟩
    · skip
      replace hF := cond_f h2 hF
      try simp -dsimp only [go_sem, h2]
      exact ⟨_, (Wks.trans (b := ⟨[(1, .ptr 0 0), (2, .ptr 1 0), (3, .sl false 3 (List.map tyC t1.a))], [.box 24 [.b t1.v, .s t1.n, .nils], .box 24 [.b false, .s (⟨#[]⟩ : ByteArray), .nils]]⟩) (Wks.ok (by simp -dsimp only [go_sem, h2])) (Wks.trans (Wks.adoptB 0 _ _ 2 24 3 rfl (by simp -dsimp only [go_sem]) (by decide)) (Wks.ok (by simp -dsimp only [go_sem, h2])))), [], rfl, hF⟩
  clear hF
  rintro _ ⟨ls2, rfl, hF⟩ hfit
  unfold types_Twin.J1 at hF
  try simp -dsimp only [go_sem]
  refine zloop_of (fun m s => ∃ (rest2 : List Ty) (x6 : Nat) (ls5 : (List Ty)), List.drop x6 t1.a = rest2 ∧ List.length rest2 = m ∧ s = ⟨[(1, .ptr 0 0), (2, .ptr 1 0), (16, .sl false 3 (List.map tyC t1.a)), (17, .i .i64 (List.length t1.a : Int)), (18, .i .i64 (x6 : Int))], [.box 24 ([.b t1.v, .s t1.n, .row 2]), .box 24 ([.b false, .s (⟨#[]⟩ : ByteArray), .nils]), .row 24 3 (List.map tyC ls5)]⟩ ∧ types_Twin.L2 self t1 rest2 x6 ls5 = some r) (List.length t1.a) ⟨_, (Wks.ok (by simp -dsimp only [go_sem])), t1.a, 0, ls2, rfl, rfl, rfl, hF⟩ ?_
  clear hF
  rintro _ _ ⟨rest2, x6, ls5, hd2, rfl, rfl, hF⟩ hfit
  have h6 : List.length t1.a ≤ LIM := by
    have h := hfit.t 16; simp only [e_lk, Nat.reduceBEq, cond_true, cond_false, Fit, FitL, ty_eq, tm_eq, List.length_map] at h; omega
  cases rest2 with
  | nil =>
    have h4 := dn hd2
    unfold types_Twin.L2 at hF
    cases hF
    simp -dsimp only [go_sem, h4]
  | cons e7 rest2 =>
    obtain ⟨h4, h5, hd2⟩ := dc hd2
    have h7 := wi h4 h6
    unfold types_Twin.L2 at hF
    obtain ⟨r8, h8, hF⟩ := bind_of hF hr
    try simp -dsimp only [go_sem, h4, h5, h7]
    refine call_ok (hself e7  _ h8) (by simp -dsimp only [go_sem, h4, h5, h7]) ?_
    obtain ⟨⟨h9, h10⟩, hF⟩ := ite_of hF hr
    obtain ⟨yh11, h11⟩ := get_some (show x6 < List.length ls5 by omega)
    have h9t := eq_true h9
    have h10t := eq_true h10
    try simp -dsimp only [go_sem, h4, h5, h7, h9t, h10t, h11]
    exact ⟨List.length rest2, _, Nat.lt_succ_self _, (Wks.ok (by simp -dsimp only [go_sem, h4, h5, h7, h9t, h10t, h11])), rest2, x6 + 1, (List.set ls5 x6 r8), hd2, rfl, rfl, hF⟩
def types_Twin.fu : Nat → Ty → Option (Ty)
  | 0 => fun _ => none
  | n + 1 => types_Twin.body (types_Twin.fu n)
theorem types_Twin.fu_pc : ∀ (n : Nat) (a0 : Ty) (r : Ty), types_Twin.fu n a0 = some r → PC Go.Proofs.Try.prog 81 [.agg (tyC a0)] (.agg (tyC r))
  | 0, a0, r, h => by cases h
  | n + 1, a0, r, h => types_Twin.body_pc (types_Twin.fu n) a0 (types_Twin.fu_pc n) r h
theorem types_Twin_ok (t : Ty) (self : Ty → Option Ty) (hs : ∀ x ∈ t.a, self x = some x) (hl : t.a.length ≤ LIM) : types_Twin.body self t = some t := by
  have key : ∀ (rest : List Ty) (i : Nat) (ls : List Ty), (∀ x ∈ rest, x ∈ t.a) → i + rest.length = ls.length → types_Twin.L2 self t rest i ls = some (Ty.mk t.v t.n (ls.take i ++ rest)) := by
    intro rest
    induction rest with
    | nil => intro i ls _ h; simp at h; simp [types_Twin.L2, h]
    | cons x l ih =>
      intro i ls hm h
      simp only [List.length_cons] at h
      have h2 : 0 ≤ (i : Int) ∧ (i : Int) < (ls.length : Int) := by omega
      simp only [types_Twin.L2, hs x (hm x (List.mem_cons_self ..)), Option.bind_some]
      rw [if_pos h2, ih _ _ (fun z hz => hm z (List.mem_cons_of_mem _ hz)) (by simp; omega), take_set_succ (by omega)]
      simp
  unfold types_Twin.body types_Twin.J1
  by_cases h : 0 < t.a.length
  · have h' : 0 < (t.a.length : Int) := by omega
    rw [key _ _ _ (fun _ h => h) (by simp), decide_eq_true h', cond_true, if_pos hl]
    cases t; simp [Ty.v, Ty.n, Ty.a]
  · have h' : ¬ 0 < (t.a.length : Int) := by omega
    have e : t.a = [] := List.eq_nil_of_length_eq_zero (by omega)
    cases t; simp only [Ty.a] at e; subst e; simp [types_Twin.L2, Ty.v, Ty.n, Ty.a]
theorem twinY_pc : ∀ t : Ty, PC Go.Proofs.Try.prog 81 [.agg (tyC t)] (.agg (tyC t)) :=
  Ty.ind fun t ih => by
    refine PC.of_fit (Ent_of Go.Proofs.Try.func81 s81_ok) fun hf => ?_
    have hl : t.a.length ≤ LIM := by
      have := hf.1
      simp only [Fit, ty_eq, FitL, List.length_map] at this
      exact this.2.2.1.1
    refine types_Twin.body_pc (fun x => og (x ∈ t.a) x) t (fun x r h => ?_) _ (types_Twin_ok t _ (fun x h => og_pos h) hl)
    obtain ⟨h1, rfl⟩ := og_of h
    exact ih x h1
/-- sequent/types.Fun -/
def b44 : SCode :=
  (.seq (.ops [.op (some 2) (.bx (.t 0)),
      .op (some 3) (.bx (.t 1)),
      .op (some 4) (.alm 24 zTy)])
  (.seq (.draw [.op (some 5) (.ldi (.t 2) 3 true),
      .call (some 6) (.c (.fn (.func 81) [] [])) [(.t 5)],
      .op (some 7) (.ldi (.t 3) 3 true),
      .call (some 8) (.c (.fn (.func 81) [] [])) [(.t 7)],
      .op (some 9) (.bsl 3 [(.t 6), (.t 8)]),
      .op (some 10) (.bld zTy [(1, 1, (.c (.s { data := #[102, 117, 110] }))), (2, 1, (.t 9))]),
      .op none (.st (.t 4) 3 (.t 10))])
  .ret))
theorem s44_ok : fnOk Go.Proofs.Try.prog Go.Proofs.Try.f44 ⟨11, [.c 4 3 true], b44⟩ = true := by kernel_rfl
def types_Fun (a1 : Ty) (b2 : Ty) : Ty := (Ty.mk false (⟨#[102, 117, 110]⟩ : ByteArray) [a1, b2])
theorem types_Fun_pc (a1 : Ty) (b2 : Ty) : PC Go.Proofs.Try.prog 44 [.agg (tyC a1), .agg (tyC b2)] (.agg (tyC (types_Fun a1 b2))) := by
  obtain ⟨r, hF⟩ : ∃ r, types_Fun a1 b2 = r := ⟨_, rfl⟩
  rw [hF]
  refine PC_z Go.Proofs.Try.func44 s44_ok (Nat.le_of_ble_eq_true rfl) fun hf => ?_
  unfold b44 start
  unfold types_Fun at hF
  try simp -dsimp only [go_sem]
  refine call_ok (twinY_pc a1) (by simp -dsimp only [go_sem]) ?_
  try simp -dsimp only [go_sem]
  refine call_ok (twinY_pc b2) (by simp -dsimp only [go_sem]) ?_
  subst hF
  simp -dsimp only [go_sem]
theorem types_Fun_eq (a b : Ty) : types_Fun a b = funY a b := rfl
/-- sequent/prove.Over -/
def b71 : SCode :=
  (.seq (.ops [.op (some 1) (.bx (.t 0)),
      .op (some 2) (.alm 24 zTy)])
  (.seq (.draw [.op (some 3) (.ldi (.t 1) 3 true),
      .call (some 4) (.c (.fn (.func 45) [] [])) [],
      .call (some 5) (.c (.fn (.func 44) [] [])) [(.t 3), (.t 4)],
      .call (some 6) (.c (.fn (.func 45) [] [])) [],
      .call (some 7) (.c (.fn (.func 44) [] [])) [(.t 5), (.t 6)],
      .op none (.st (.t 2) 3 (.t 7))])
  .ret))
theorem s71_ok : fnOk Go.Proofs.Try.prog Go.Proofs.Try.f71 ⟨8, [.c 2 3 true], b71⟩ = true := by kernel_rfl
def prove_Over (t1 : Ty) : Ty := (lt (prove_Bool) fun r2 => (lt (types_Fun t1 r2) fun r3 => (lt (prove_Bool) fun r4 => (lt (types_Fun r3 r4) fun r5 => r5))))
theorem prove_Over_pc (t1 : Ty) : PC Go.Proofs.Try.prog 71 [.agg (tyC t1)] (.agg (tyC (prove_Over t1))) := by
  obtain ⟨r, hF⟩ : ∃ r, prove_Over t1 = r := ⟨_, rfl⟩
  rw [hF]
  refine PC_z Go.Proofs.Try.func71 s71_ok (Nat.le_of_ble_eq_true rfl) fun hf => ?_
  unfold b71 start
  unfold prove_Over at hF
  obtain ⟨r2, h1, hF⟩ := lt_of hF
  try simp -dsimp only [go_sem]
  have hp := (prove_Bool_pc  )
  rw [h1] at hp
  refine call_ok hp (by simp -dsimp only [go_sem]) ?_
  clear hp
  obtain ⟨r3, h2, hF⟩ := lt_of hF
  try simp -dsimp only [go_sem]
  have hp := (types_Fun_pc t1 r2 )
  rw [h2] at hp
  refine call_ok hp (by simp -dsimp only [go_sem]) ?_
  clear hp
  obtain ⟨r4, h3, hF⟩ := lt_of hF
  try simp -dsimp only [go_sem]
  have hp := (prove_Bool_pc  )
  rw [h3] at hp
  refine call_ok hp (by simp -dsimp only [go_sem]) ?_
  clear hp
  obtain ⟨r5, h4, hF⟩ := lt_of hF
  try simp -dsimp only [go_sem]
  have hp := (types_Fun_pc r3 r4 )
  rw [h4] at hp
  refine call_ok hp (by simp -dsimp only [go_sem]) ?_
  clear hp
  subst hF
  simp -dsimp only [go_sem]
theorem prove_Bool_eq : prove_Bool = boolY := rfl
theorem prove_Over_eq (t : Ty) : prove_Over t = funY (funY t boolY) boolY := rfl
/-- sequent/sequentref01.Twin -/
def b88 : SCode :=
  (.seq (.ops [.op (some 1) (.bx (.t 0)),
      .op (some 2) (.alm 24 zTy)])
  (.seq (.ops [.op (some 5) (.fa (.t 1) 0),
      .op (some 6) (.ld (.t 5) 1 false),
      .op (some 7) (.fa (.t 1) 1),
      .op (some 8) (.ld (.t 7) 1 false),
      .op (some 9) (.bld zTy [(0, 1, (.t 6)), (1, 1, (.t 8))]),
      .op (some 3) (.alm 24 zTy),
      .op none (.st (.t 3) 3 (.t 9))])
  (.seq (.seq (.ops [.op (some 4) (.mv (.c (.i .i64 0)))])
  (.block 0 (.loop (.seq (.seq (.ops [.op (some 10) (.mv (.t 4)),
      .op (some 11) (.fa (.t 1) 2),
      .op (some 12) (.ld (.t 11) 1 false),
      .op (some 13) (.len (.t 12)),
      .op (some 14) (.bi .lss (.t 10) (.t 13))])
  (.cond (.t 14) .skip
    (.exit 0)))
  (.seq (.block 1 (.draw [.op (some 17) (.fa (.t 3) 2),
      .op (some 18) (.ld (.t 17) 1 false),
      .op (some 19) (.fa (.t 1) 2),
      .op (some 20) (.ldi (.t 19) 1 false),
      .op (some 21) (.mv (.t 4)),
      .op (some 22) (.ia 3 (.t 20) (.t 21)),
      .op (some 23) (.ld (.t 22) 3 true),
      .call (some 24) (.c (.fn (.func 88) [] [])) [(.t 23)],
      .op (some 25) (.bsl 3 [(.t 24)]),
      .op (some 26) (.app 24 3 (.t 18) (.t 25)),
      .op (some 27) (.fa (.t 3) 2),
      .op none (.st (.t 27) 1 (.t 26))]))
  (.ops [.op (some 15) (.mv (.t 4)),
      .op (some 16) (.bi .add (.t 15) (.c (.i .i64 1))),
      .op (some 4) (.mv (.t 16))]))))))
  (.seq (.ops [.op (some 28) (.ld (.t 3) 3 true),
      .op none (.st (.t 2) 3 (.t 28))])
  .ret))))
theorem s88_ok : fnOk Go.Proofs.Try.prog Go.Proofs.Try.f88 ⟨29, [.c 2 3 true], b88⟩ = true := by kernel_rfl
def ref01_Twin.L1 (self : Ty → Option (Ty)) (t1 : Ty) : List Ty → Nat → (List Ty) → Option (Ty)
  | [], i5, ls4 => some (Ty.mk t1.v t1.n ls4)
  | e6 :: rest, i5, ls4 => (Option.bind (self e6) fun r7 => (if List.length ls4 + 1 ≤ LIM then ((ref01_Twin.L1 self t1 rest) (i5 + 1) (ls4 ++ [r7])) else none))
def ref01_Twin.body (self : Ty → Option (Ty)) (t1 : Ty) : Option (Ty) := (ref01_Twin.L1 self t1 t1.a 0 [])
theorem ref01_Twin.body_pc (self : Ty → Option (Ty)) (t1 : Ty) (hself : ∀ a0 r, self a0 = some r → PC Go.Proofs.Try.prog 88 [.agg (tyC a0)] (.agg (tyC r))) (r : Ty) (hF : ref01_Twin.body self t1 = some r) : PC Go.Proofs.Try.prog 88 [.agg (tyC t1)] (.agg (tyC r)) := by
  obtain ⟨z, hr⟩ : ∃ z, some r = some z := ⟨_, rfl⟩
  refine PC_z Go.Proofs.Try.func88 s88_ok (Nat.le_of_ble_eq_true rfl) fun hf => ?_
  unfold b88 start
  unfold ref01_Twin.body at hF
  try simp -dsimp only [go_sem]
  refine zloop_of (fun m s => ∃ (rest1 : List Ty) (i5 : Nat) (ls4 : (List Ty)), List.drop i5 t1.a = rest1 ∧ List.length rest1 = m ∧ s = ⟨[(1, .ip (tyC t1)), (2, .ptr 0 0), (3, .ptr 1 0), (4, .i .i64 (i5 : Int))], [.box 24 ([.b false, .s (⟨#[]⟩ : ByteArray), .nils]), .box 24 ([.b t1.v, .s t1.n, .row 2]), .row 24 3 (List.map tyC ls4)]⟩ ∧ ref01_Twin.L1 self t1 rest1 i5 ls4 = some r) (List.length t1.a) ⟨_, (Wks.trans (b := ⟨[(1, .ip (tyC t1)), (2, .ptr 0 0), (3, .ptr 1 0), (4, .i .i64 (0 : Int))], [.box 24 [.b false, .s (⟨#[]⟩ : ByteArray), .nils], .box 24 [.b t1.v, .s t1.n, .nils]]⟩) (Wks.ok (by simp -dsimp only [go_sem])) (Wks.trans (Wks.adoptB 1 _ _ 2 24 3 rfl (by simp -dsimp only [go_sem]) (by decide)) (Wks.ok (by simp -dsimp only [go_sem])))), t1.a, 0, [], rfl, rfl, rfl, hF⟩ ?_
  clear hF
  rintro _ _ ⟨rest1, i5, ls4, hd1, rfl, rfl, hF⟩ hfit
  have h3 : List.length t1.a ≤ LIM := by
    have h := hfit.t 1; simp only [e_lk, Nat.reduceBEq, cond_true, cond_false, Fit, FitL, ty_eq, tm_eq, List.length_map] at h; omega
  cases rest1 with
  | nil =>
    have h1 := dn hd1
    unfold ref01_Twin.L1 at hF
    cases hF
    simp -dsimp only [go_sem, h1]
  | cons e6 rest1 =>
    obtain ⟨h1, h2, hd1⟩ := dc hd1
    have h4 := wi h1 h3
    unfold ref01_Twin.L1 at hF
    obtain ⟨r7, h5, hF⟩ := bind_of hF hr
    try simp -dsimp only [go_sem, h1, h2, h4]
    refine call_ok (hself e6  _ h5) (by simp -dsimp only [go_sem, h1, h2, h4]) ?_
    obtain ⟨h6, hF⟩ := ite_of hF hr
    have h6t := eq_true h6
    try simp -dsimp only [go_sem, h1, h2, h4, h6t]
    exact ⟨List.length rest1, _, Nat.lt_succ_self _, (Wks.ok (by simp -dsimp only [go_sem, h1, h2, h4, h6t])), rest1, i5 + 1, (ls4 ++ [r7]), hd1, rfl, rfl, hF⟩
def ref01_Twin.fu : Nat → Ty → Option (Ty)
  | 0 => fun _ => none
  | n + 1 => ref01_Twin.body (ref01_Twin.fu n)
theorem ref01_Twin.fu_pc : ∀ (n : Nat) (a0 : Ty) (r : Ty), ref01_Twin.fu n a0 = some r → PC Go.Proofs.Try.prog 88 [.agg (tyC a0)] (.agg (tyC r))
  | 0, a0, r, h => by cases h
  | n + 1, a0, r, h => ref01_Twin.body_pc (ref01_Twin.fu n) a0 (ref01_Twin.fu_pc n) r h
theorem ref01_Twin_ok (t : Ty) (self : Ty → Option Ty) (hs : ∀ x ∈ t.a, self x = some x) (hl : t.a.length ≤ LIM) : ref01_Twin.body self t = some t := by
  have key : ∀ (rest : List Ty) (i : Nat) (ls : List Ty), (∀ x ∈ rest, x ∈ t.a) → ls.length + rest.length ≤ LIM → ref01_Twin.L1 self t rest i ls = some (Ty.mk t.v t.n (ls ++ rest)) := by
    intro rest
    induction rest with
    | nil => intro i ls _ h; simp [ref01_Twin.L1]
    | cons x l ih =>
      intro i ls hm h
      simp only [List.length_cons] at h
      simp only [ref01_Twin.L1, hs x (hm x (List.mem_cons_self ..)), Option.bind_some]
      rw [if_pos (by omega), ih _ _ (fun z hz => hm z (List.mem_cons_of_mem _ hz)) (by simp; omega)]
      simp
  unfold ref01_Twin.body
  rw [key t.a 0 [] (fun _ h => h) (by simpa using hl)]
  cases t; simp [Ty.v, Ty.n, Ty.a]
theorem fit_len (t : Ty) (h : FitL [.agg (tyC t)]) : t.a.length ≤ LIM ∧ t.n.size ≤ LIM := by
  have := h.1
  simp only [Fit, ty_eq, FitL, List.length_map] at this
  exact ⟨this.2.2.1.1, this.2.1⟩
theorem twinY_pc2 : ∀ t : Ty, PC Go.Proofs.Try.prog 88 [.agg (tyC t)] (.agg (tyC t)) :=
  Ty.ind fun t ih => by
    refine PC.of_fit (Ent_of Go.Proofs.Try.func88 s88_ok) fun hf => ?_
    refine ref01_Twin.body_pc (fun x => og (x ∈ t.a) x) t (fun x r h => ?_) _ (ref01_Twin_ok t _ (fun x h => og_pos h) (fit_len t hf).1)
    obtain ⟨h1, rfl⟩ := og_of h
    exact ih x h1
/-- sequent/sequentref01.Fun -/
def b89 : SCode :=
  (.seq (.ops [.op (some 2) (.bx (.t 0)),
      .op (some 3) (.bx (.t 1)),
      .op (some 4) (.alm 24 zTy)])
  (.seq (.draw [.op (some 5) (.ldi (.t 2) 3 true),
      .call (some 6) (.c (.fn (.func 88) [] [])) [(.t 5)],
      .op (some 7) (.ldi (.t 3) 3 true),
      .call (some 8) (.c (.fn (.func 88) [] [])) [(.t 7)],
      .op (some 9) (.bsl 3 [(.t 6), (.t 8)]),
      .op (some 10) (.bld zTy [(1, 1, (.c (.s { data := #[102, 117, 110] }))), (2, 1, (.t 9))]),
      .op none (.st (.t 4) 3 (.t 10))])
  .ret))
theorem s89_ok : fnOk Go.Proofs.Try.prog Go.Proofs.Try.f89 ⟨11, [.c 4 3 true], b89⟩ = true := by kernel_rfl
def ref01_Fun (a1 : Ty) (b2 : Ty) : Ty := (Ty.mk false (⟨#[102, 117, 110]⟩ : ByteArray) [a1, b2])
theorem ref01_Fun_pc (a1 : Ty) (b2 : Ty) : PC Go.Proofs.Try.prog 89 [.agg (tyC a1), .agg (tyC b2)] (.agg (tyC (ref01_Fun a1 b2))) := by
  obtain ⟨r, hF⟩ : ∃ r, ref01_Fun a1 b2 = r := ⟨_, rfl⟩
  rw [hF]
  refine PC_z Go.Proofs.Try.func89 s89_ok (Nat.le_of_ble_eq_true rfl) fun hf => ?_
  unfold b89 start
  unfold ref01_Fun at hF
  try simp -dsimp only [go_sem]
  refine call_ok (twinY_pc2 a1) (by simp -dsimp only [go_sem]) ?_
  try simp -dsimp only [go_sem]
  refine call_ok (twinY_pc2 b2) (by simp -dsimp only [go_sem]) ?_
  subst hF
  simp -dsimp only [go_sem]
theorem ref01_Fun_eq (a b : Ty) : ref01_Fun a b = funY a b := rfl
/-- sequent/sequentref01.Size -/
def b136 : SCode :=
  (.seq (.ops [.op (some 1) (.bx (.t 0)),
      .op (some 2) (.mv (.c (.i .i64 0)))])
  (.seq (.ops [.op (some 3) (.mv (.c (.i .i64 1)))])
  (.seq (.seq (.ops [.op (some 4) (.mv (.c (.i .i64 0)))])
  (.block 0 (.loop (.seq (.seq (.ops [.op (some 5) (.mv (.t 4)),
      .op (some 6) (.fa (.t 1) 2),
      .op (some 7) (.ld (.t 6) 1 false),
      .op (some 8) (.len (.t 7)),
      .op (some 9) (.bi .lss (.t 5) (.t 8))])
  (.cond (.t 9) .skip
    (.exit 0)))
  (.seq (.block 1 (.ops [.op (some 12) (.mv (.t 3)),
      .op (some 13) (.fa (.t 1) 2),
      .op (some 14) (.ld (.t 13) 1 false),
      .op (some 15) (.mv (.t 4)),
      .op (some 16) (.ia 3 (.t 14) (.t 15)),
      .op (some 17) (.ld (.t 16) 3 true),
      .call (some 18) (.c (.fn (.func 136) [] [])) [(.t 17)],
      .op (some 19) (.bi .add (.t 12) (.t 18)),
      .op (some 3) (.mv (.t 19))]))
  (.ops [.op (some 10) (.mv (.t 4)),
      .op (some 11) (.bi .add (.t 10) (.c (.i .i64 1))),
      .op (some 4) (.mv (.t 11))]))))))
  (.seq (.ops [.op (some 20) (.mv (.t 3)),
      .op (some 2) (.mv (.t 20))])
  .ret))))
theorem s136_ok : fnOk Go.Proofs.Try.prog Go.Proofs.Try.f136 ⟨21, [.t 2], b136⟩ = true := by kernel_rfl
def ref01_Size.L1 (self : Ty → Option (Int)) (t1 : Ty) : List Ty → Nat → Int → Option (Int)
  | [], i5, n4 => some n4
  | e6 :: rest, i5, n4 => (Option.bind (self e6) fun r7 => ((ref01_Size.L1 self t1 rest) (i5 + 1) (IntKind.i64.wrap (n4 + r7))))
def ref01_Size.body (self : Ty → Option (Int)) (t1 : Ty) : Option (Int) := (ref01_Size.L1 self t1 t1.a 0 1)
theorem ref01_Size.body_pc (self : Ty → Option (Int)) (t1 : Ty) (hself : ∀ a0 r, self a0 = some r → PC Go.Proofs.Try.prog 136 [.agg (tyC a0)] (.i .i64 r)) (r : Int) (hF : ref01_Size.body self t1 = some r) : PC Go.Proofs.Try.prog 136 [.agg (tyC t1)] (.i .i64 r) := by
  obtain ⟨z, hr⟩ : ∃ z, some r = some z := ⟨_, rfl⟩
  refine PC_z Go.Proofs.Try.func136 s136_ok (Nat.le_of_ble_eq_true rfl) fun hf => ?_
  unfold b136 start
  unfold ref01_Size.body at hF
  try simp -dsimp only [go_sem]
  refine zloop_of (fun m s => ∃ (rest1 : List Ty) (i5 : Nat) (n4 : Int), List.drop i5 t1.a = rest1 ∧ List.length rest1 = m ∧ s = ⟨[(1, .ip (tyC t1)), (3, .i .i64 n4), (4, .i .i64 (i5 : Int))], []⟩ ∧ ref01_Size.L1 self t1 rest1 i5 n4 = some r) (List.length t1.a) ⟨_, (Wks.ok (by simp -dsimp only [go_sem])), t1.a, 0, 1, rfl, rfl, rfl, hF⟩ ?_
  clear hF
  rintro _ _ ⟨rest1, i5, n4, hd1, rfl, rfl, hF⟩ hfit
  have h3 : List.length t1.a ≤ LIM := by
    have h := hfit.t 1; simp only [e_lk, Nat.reduceBEq, cond_true, cond_false, Fit, FitL, ty_eq, tm_eq, List.length_map] at h; omega
  cases rest1 with
  | nil =>
    have h1 := dn hd1
    unfold ref01_Size.L1 at hF
    cases hF
    simp -dsimp only [go_sem, h1]
  | cons e6 rest1 =>
    obtain ⟨h1, h2, hd1⟩ := dc hd1
    have h4 := wi h1 h3
    unfold ref01_Size.L1 at hF
    obtain ⟨r7, h5, hF⟩ := bind_of hF hr
    try simp -dsimp only [go_sem, h1, h2, h4]
    refine call_ok (hself e6  _ h5) (by simp -dsimp only [go_sem, h1, h2, h4]) ?_
    try simp -dsimp only [go_sem, h1, h2, h4]
    exact ⟨List.length rest1, _, Nat.lt_succ_self _, (Wks.ok (by simp -dsimp only [go_sem, h1, h2, h4])), rest1, i5 + 1, (IntKind.i64.wrap (n4 + r7)), hd1, rfl, rfl, hF⟩
def ref01_Size.fu : Nat → Ty → Option (Int)
  | 0 => fun _ => none
  | n + 1 => ref01_Size.body (ref01_Size.fu n)
theorem ref01_Size.fu_pc : ∀ (n : Nat) (a0 : Ty) (r : Int), ref01_Size.fu n a0 = some r → PC Go.Proofs.Try.prog 136 [.agg (tyC a0)] (.i .i64 r)
  | 0, a0, r, h => by cases h
  | n + 1, a0, r, h => ref01_Size.body_pc (ref01_Size.fu n) a0 (ref01_Size.fu_pc n) r h
noncomputable def szYo (t : Ty) : Option Int := og (bkY t ≤ 2 ^ 40) (szY t : Int)
theorem szYo_eq {t : Ty} (h : bkY t ≤ 2 ^ 40) : szYo t = some (szY t : Int) := og_pos h
theorem ref01_Size_ok (t : Ty) (self : Ty → Option Int) (hs : ∀ x ∈ t.a, self x = some (szY x : Int)) (hb : bkY t ≤ 2 ^ 40) : ref01_Size.body self t = some (szY t : Int) := by
  have hsz := szY_bk t
  have h1 := szY_eq t
  have key : ∀ (rest : List Ty) (i : Nat) (n : Int), (∀ x ∈ rest, x ∈ t.a) → 0 ≤ n → n + szYs rest ≤ 2 ^ 40 → ref01_Size.L1 self t rest i n = some (n + szYs rest) := by
    intro rest
    induction rest with
    | nil => intro i n _ _ _; simp [ref01_Size.L1, szYs]
    | cons x l ih =>
      intro i n hm h1 h2
      simp only [szYs] at h2
      simp only [ref01_Size.L1, hs x (hm x (List.mem_cons_self ..)), Option.bind_some, szYs]
      rw [wr64 (by omega) (by omega), ih _ _ (fun z hz => hm z (List.mem_cons_of_mem _ hz)) (by omega) (by omega)]
      congr 1; omega
  unfold ref01_Size.body
  rw [key t.a 0 1 (fun _ h => h) (by omega) (by omega)]
  congr 1; omega
theorem szYo_pc : ∀ (t : Ty) (r : Int), szYo t = some r → PC Go.Proofs.Try.prog 136 [.agg (tyC t)] (.i .i64 r) :=
  Ty.ind fun t ih r hr => by
    obtain ⟨hb, rfl⟩ := og_of hr
    refine ref01_Size.body_pc (fun x => og (x ∈ t.a) (szY x : Int)) t (fun x r h => ?_) _ (ref01_Size_ok t _ (fun x h => og_pos h) hb)
    obtain ⟨h1, rfl⟩ := og_of h
    have := bkY_eq t
    have := bkYs_mem h1
    exact ih x h1 _ (og_pos (by omega))
/-- sequent/sequentref01.Depth -/
def b137 : SCode :=
  (.seq (.ops [.op (some 1) (.bx (.t 0)),
      .op (some 2) (.mv (.c (.i .i64 0)))])
  (.seq (.ops [.op (some 3) (.mv (.c (.i .i64 0)))])
  (.seq (.seq (.ops [.op (some 4) (.mv (.c (.i .i64 0)))])
  (.block 0 (.loop (.seq (.seq (.ops [.op (some 5) (.mv (.t 4)),
      .op (some 6) (.fa (.t 1) 2),
      .op (some 7) (.ld (.t 6) 1 false),
      .op (some 8) (.len (.t 7)),
      .op (some 9) (.bi .lss (.t 5) (.t 8))])
  (.cond (.t 9) .skip
    (.exit 0)))
  (.seq (.block 1 (.ops [.op (some 12) (.mv (.t 3)),
      .op (some 13) (.fa (.t 1) 2),
      .op (some 14) (.ld (.t 13) 1 false),
      .op (some 15) (.mv (.t 4)),
      .op (some 16) (.ia 3 (.t 14) (.t 15)),
      .op (some 17) (.ld (.t 16) 3 true),
      .call (some 18) (.c (.fn (.func 137) [] [])) [(.t 17)],
      .op (some 19) (.mx (.t 12) (.t 18)),
      .op (some 3) (.mv (.t 19))]))
  (.ops [.op (some 10) (.mv (.t 4)),
      .op (some 11) (.bi .add (.t 10) (.c (.i .i64 1))),
      .op (some 4) (.mv (.t 11))]))))))
  (.seq (.ops [.op (some 20) (.mv (.t 3)),
      .op (some 21) (.bi .add (.c (.i .i64 1)) (.t 20)),
      .op (some 2) (.mv (.t 21))])
  .ret))))
theorem s137_ok : fnOk Go.Proofs.Try.prog Go.Proofs.Try.f137 ⟨22, [.t 2], b137⟩ = true := by kernel_rfl
def ref01_Depth.L1 (self : Ty → Option (Int)) (t1 : Ty) : List Ty → Nat → Int → Option (Int)
  | [], i5, d4 => some (IntKind.i64.wrap (1 + d4))
  | e6 :: rest, i5, d4 => (Option.bind (self e6) fun r7 => ((ref01_Depth.L1 self t1 rest) (i5 + 1) (max d4 r7)))
def ref01_Depth.body (self : Ty → Option (Int)) (t1 : Ty) : Option (Int) := (ref01_Depth.L1 self t1 t1.a 0 0)
theorem ref01_Depth.body_pc (self : Ty → Option (Int)) (t1 : Ty) (hself : ∀ a0 r, self a0 = some r → PC Go.Proofs.Try.prog 137 [.agg (tyC a0)] (.i .i64 r)) (r : Int) (hF : ref01_Depth.body self t1 = some r) : PC Go.Proofs.Try.prog 137 [.agg (tyC t1)] (.i .i64 r) := by
  obtain ⟨z, hr⟩ : ∃ z, some r = some z := ⟨_, rfl⟩
  refine PC_z Go.Proofs.Try.func137 s137_ok (Nat.le_of_ble_eq_true rfl) fun hf => ?_
  unfold b137 start
  unfold ref01_Depth.body at hF
  try simp -dsimp only [go_sem]
  refine zloop_of (fun m s => ∃ (rest1 : List Ty) (i5 : Nat) (d4 : Int), List.drop i5 t1.a = rest1 ∧ List.length rest1 = m ∧ s = ⟨[(1, .ip (tyC t1)), (3, .i .i64 d4), (4, .i .i64 (i5 : Int))], []⟩ ∧ ref01_Depth.L1 self t1 rest1 i5 d4 = some r) (List.length t1.a) ⟨_, (Wks.ok (by simp -dsimp only [go_sem])), t1.a, 0, 0, rfl, rfl, rfl, hF⟩ ?_
  clear hF
  rintro _ _ ⟨rest1, i5, d4, hd1, rfl, rfl, hF⟩ hfit
  have h3 : List.length t1.a ≤ LIM := by
    have h := hfit.t 1; simp only [e_lk, Nat.reduceBEq, cond_true, cond_false, Fit, FitL, ty_eq, tm_eq, List.length_map] at h; omega
  cases rest1 with
  | nil =>
    have h1 := dn hd1
    unfold ref01_Depth.L1 at hF
    cases hF
    simp -dsimp only [go_sem, h1]
  | cons e6 rest1 =>
    obtain ⟨h1, h2, hd1⟩ := dc hd1
    have h4 := wi h1 h3
    unfold ref01_Depth.L1 at hF
    obtain ⟨r7, h5, hF⟩ := bind_of hF hr
    try simp -dsimp only [go_sem, h1, h2, h4]
    refine call_ok (hself e6  _ h5) (by simp -dsimp only [go_sem, h1, h2, h4]) ?_
    try simp -dsimp only [go_sem, h1, h2, h4]
    exact ⟨List.length rest1, _, Nat.lt_succ_self _, (Wks.ok (by simp -dsimp only [go_sem, h1, h2, h4])), rest1, i5 + 1, (max d4 r7), hd1, rfl, rfl, hF⟩
def ref01_Depth.fu : Nat → Ty → Option (Int)
  | 0 => fun _ => none
  | n + 1 => ref01_Depth.body (ref01_Depth.fu n)
theorem ref01_Depth.fu_pc : ∀ (n : Nat) (a0 : Ty) (r : Int), ref01_Depth.fu n a0 = some r → PC Go.Proofs.Try.prog 137 [.agg (tyC a0)] (.i .i64 r)
  | 0, a0, r, h => by cases h
  | n + 1, a0, r, h => ref01_Depth.body_pc (ref01_Depth.fu n) a0 (ref01_Depth.fu_pc n) r h
noncomputable def dpYo (t : Ty) : Option Int := og (bkY t ≤ 2 ^ 40) (dpY t : Int)
theorem dpYo_eq {t : Ty} (h : bkY t ≤ 2 ^ 40) : dpYo t = some (dpY t : Int) := og_pos h
theorem ref01_Depth_ok (t : Ty) (self : Ty → Option Int) (hs : ∀ x ∈ t.a, self x = some (dpY x : Int)) (hb : bkY t ≤ 2 ^ 40) : ref01_Depth.body self t = some (dpY t : Int) := by
  have hsz := szY_bk t
  have hdp := dpY_le t
  have h1 := dpY_eq t
  have key : ∀ (rest : List Ty) (i : Nat) (n : Int), (∀ x ∈ rest, x ∈ t.a) → 0 ≤ n → n ≤ 2 ^ 40 → (dpYs rest : Int) ≤ 2 ^ 40 → ref01_Depth.L1 self t rest i n = some (1 + max n (dpYs rest : Int)) := by
    intro rest
    induction rest with
    | nil => intro i n _ _ _ _; simp only [ref01_Depth.L1, dpYs]; rw [wr64 (by omega) (by omega)]; congr 1; omega
    | cons x l ih =>
      intro i n hm h1 h2 h3
      simp only [dpYs] at h3
      simp only [ref01_Depth.L1, hs x (hm x (List.mem_cons_self ..)), Option.bind_some, dpYs]
      rw [ih _ _ (fun z hz => hm z (List.mem_cons_of_mem _ hz)) (by omega) (by omega) (by omega)]
      congr 1; omega
  unfold ref01_Depth.body
  rw [key t.a 0 0 (fun _ h => h) (by omega) (by omega) (by omega)]
  congr 1; omega
theorem dpYo_pc : ∀ (t : Ty) (r : Int), dpYo t = some r → PC Go.Proofs.Try.prog 137 [.agg (tyC t)] (.i .i64 r) :=
  Ty.ind fun t ih r hr => by
    obtain ⟨hb, rfl⟩ := og_of hr
    refine ref01_Depth.body_pc (fun x => og (x ∈ t.a) (dpY x : Int)) t (fun x r h => ?_) _ (ref01_Depth_ok t _ (fun x h => og_pos h) hb)
    obtain ⟨h1, rfl⟩ := og_of h
    have := bkY_eq t
    have := bkYs_mem h1
    exact ih x h1 _ (og_pos (by omega))
/-- sequent/sequentref01.Small -/
def b127 : SCode :=
  (.seq (.ops [.op (some 1) (.bx (.t 0)),
      .op (some 2) (.mv (.c (.b false)))])
  (cutS (.ops [.op (some 3) (.ld (.t 1) 3 true),
      .call (some 4) (.c (.fn (.func 136) [] [])) [(.t 3)],
      .op (some 5) (.bi .leq (.t 4) (.c (.i .i64 500))),
      .op (some 6) (.mv (.t 5)),
      .gd 6 true (some 7) (.op (some 7) (.ld (.t 1) 3 true)),
      .gd 6 true (some 8) (.call (some 8) (.c (.fn (.func 137) [] [])) [(.t 7)]),
      .gd 6 true (some 9) (.op (some 9) (.bi .leq (.t 8) (.c (.i .i64 200)))),
      .op (some 10) (.pk (.t 6) (.t 9) (.c (.b false))),
      .op (some 2) (.mv (.t 10))])
  .ret))
theorem s127_ok : fnOk Go.Proofs.Try.prog Go.Proofs.Try.f127 ⟨11, [.t 2], b127⟩ = true := by kernel_rfl
def ref01_Small.J1 (x4 : Bool) : Option (Bool) := some x4
def ref01_Small (t1 : Ty) : Option (Bool) := (Option.bind (szYo t1) fun r2 => (bif (decide (r2 ≤ 500)) then (Option.bind (dpYo t1) fun r3 => (ref01_Small.J1 (decide (r3 ≤ 200)))) else (ref01_Small.J1 false)))
theorem ref01_Small_pc (t1 : Ty) (r : Bool) (hF : ref01_Small t1 = some r) : PC Go.Proofs.Try.prog 127 [.agg (tyC t1)] (.b r) := by
  obtain ⟨z, hr⟩ : ∃ z, some r = some z := ⟨_, rfl⟩
  refine PC_z Go.Proofs.Try.func127 s127_ok (Nat.le_of_ble_eq_true rfl) fun hf => ?_
  unfold b127 start
  unfold ref01_Small at hF
  try simp -dsimp only [go_sem]
  refine zcut_of (fun s => ∃ (x4 : Bool), s = ⟨[(2, .b x4)], []⟩ ∧ ref01_Small.J1 x4 = some r) ?_ ?_
  · skip
    obtain ⟨r2, h2, hF⟩ := bind_of hF hr
    try simp -dsimp only [go_sem]
    refine call_ok (szYo_pc t1  _ h2) (by simp -dsimp only [go_sem]) ?_
    try simp -dsimp only [go_sem]
    refine zif_of (fun h3 => ?_) (fun h3 => ?_)
    · skip
      replace hF := cond_t h3 hF
      obtain ⟨r3, h4, hF⟩ := bind_of hF hr
      try simp -dsimp only [go_sem, h3]
      refine call_ok (dpYo_pc t1  _ h4) (by simp -dsimp only [go_sem, h3]) ?_
      try simp -dsimp only [go_sem, h3]
      exact ⟨_, (Wks.ok (by simp -dsimp only [go_sem, h3])), (decide (r3 ≤ 200)), rfl, hF⟩
    · skip
      replace hF := cond_f h3 hF
      try simp -dsimp only [go_sem, h3]
      exact ⟨_, (Wks.ok (by simp -dsimp only [go_sem, h3])), false, rfl, hF⟩
  clear hF
  rintro _ ⟨x4, rfl, hF⟩ hfit
  unfold ref01_Small.J1 at hF
  cases hF
  simp -dsimp only [go_sem]
/-- sequent/sequentref01.shape -/
def b128 : SCode :=
  (.seq (.ops [.op (some 1) (.bx (.t 0)),
      .op (some 2) (.mv (.c (.b false)))])
  (.seq (cutS (.draw [.op (some 4) (.fa (.t 1) 1),
      .op (some 5) (.ldi (.t 4) 1 false),
      .call (some 6) (.c (.fn (.func 126) [] [])) [(.t 5)],
      .op (some 7) (.un .not (.t 6)),
      .op (some 8) (.mv (.t 7)),
      .gd 8 false (some 9) (.op (some 9) (.fa (.t 1) 0)),
      .gd 8 false (some 10) (.op (some 10) (.ldi (.t 9) 1 false)),
      .gd 8 false (some 11) (.op (some 11) (.fa (.t 1) 1)),
      .gd 8 false (some 12) (.op (some 12) (.ldi (.t 11) 1 false)),
      .gd 8 false (some 13) (.op (some 13) (.ix (.t 12) (.c (.i .i64 0)))),
      .gd 8 false (some 14) (.op (some 14) (.bi .eql (.t 13) (.c (.i .u8 39)))),
      .gd 8 false (some 15) (.op (some 15) (.bib .neq (.t 10) (.t 14))),
      .op (some 16) (.pk (.t 8) (.c (.b true)) (.t 15)),
      .op (some 17) (.mv (.t 16)),
      .gd 17 false (some 18) (.op (some 18) (.fa (.t 1) 0)),
      .gd 17 false (some 19) (.op (some 19) (.ldi (.t 18) 1 false)),
      .gd 17 false (some 20) (.op (some 20) (.mv (.t 19))),
      .gd 20 true (some 21) (.op (some 21) (.fa (.t 1) 2)),
      .gd 20 true (some 22) (.op (some 22) (.ldi (.t 21) 1 false)),
      .gd 20 true (some 23) (.op (some 23) (.len (.t 22))),
      .gd 20 true (some 24) (.op (some 24) (.bi .gtr (.t 23) (.c (.i .i64 0)))),
      .gd 17 false (some 25) (.op (some 25) (.pk (.t 20) (.t 24) (.c (.b false)))),
      .op (some 26) (.pk (.t 17) (.c (.b true)) (.t 25)),
      .op (some 27) (.mv (.t 26)),
      .gd 27 false (some 28) (.op (some 28) (.fa (.t 1) 2)),
      .gd 27 false (some 29) (.op (some 29) (.ldi (.t 28) 1 false)),
      .gd 27 false (some 30) (.op (some 30) (.len (.t 29))),
      .gd 27 false (some 31) (.op (some 31) (.bi .gtr (.t 30) (.c (.i .i64 8)))),
      .op (some 32) (.pk (.t 27) (.c (.b true)) (.t 31))])
  (.cond (.t 32) (.seq (.ops [.op (some 2) (.mv (.c (.b false)))])
    .ret)
    .skip))
  (.seq (.seq (.ops [.op (some 3) (.mv (.c (.i .i64 0)))])
  (.block 0 (.loop (.seq (.seq (.ops [.op (some 33) (.mv (.t 3)),
      .op (some 34) (.fa (.t 1) 2),
      .op (some 35) (.ld (.t 34) 1 false),
      .op (some 36) (.len (.t 35)),
      .op (some 37) (.bi .lss (.t 33) (.t 36))])
  (.cond (.t 37) .skip
    (.exit 0)))
  (.seq (.block 1 (.seq (.ops [.op (some 40) (.fa (.t 1) 2),
      .op (some 41) (.ld (.t 40) 1 false),
      .op (some 42) (.mv (.t 3)),
      .op (some 43) (.ia 3 (.t 41) (.t 42)),
      .op (some 44) (.ld (.t 43) 3 true),
      .call (some 45) (.c (.fn (.func 128) [] [])) [(.t 44)],
      .op (some 46) (.un .not (.t 45))])
  (.cond (.t 46) (.seq (.ops [.op (some 2) (.mv (.c (.b false)))])
    .ret)
    .skip)))
  (.ops [.op (some 38) (.mv (.t 3)),
      .op (some 39) (.bi .add (.t 38) (.c (.i .i64 1))),
      .op (some 3) (.mv (.t 39))]))))))
  (.seq (.ops [.op (some 2) (.mv (.c (.b true)))])
  .ret))))
theorem s128_ok : fnOk Go.Proofs.Try.prog Go.Proofs.Try.f128 ⟨47, [.t 2], b128⟩ = true := by kernel_rfl
def ref01_shape.L2 (self : Ty → Option (Bool)) (t1 : Ty) : List Ty → Nat → Option (Bool)
  | [], i6 => some true
  | e7 :: rest, i6 => (Option.bind (self e7) fun r8 => (bif (!r8) then some false else ((ref01_shape.L2 self t1 rest) (i6 + 1))))
def ref01_shape.J1 (self : Ty → Option (Bool)) (t1 : Ty) (x3 : Bool) : Option (Bool) := (bif x3 then some false else (ref01_shape.L2 self t1 t1.a 0))
def ref01_shape.body (self : Ty → Option (Bool)) (t1 : Ty) : Option (Bool) := (bif (!(ref01_Name t1.n)) then (ref01_shape.J1 self t1 true) else (Option.bind (ixS t1.n 0) fun c2 => (bif (!(t1.v == (decide (c2 = 39)))) then (ref01_shape.J1 self t1 true) else (bif t1.v then (bif (decide (0 < (List.length t1.a : Int))) then (ref01_shape.J1 self t1 true) else (ref01_shape.J1 self t1 (decide (8 < (List.length t1.a : Int))))) else (ref01_shape.J1 self t1 (decide (8 < (List.length t1.a : Int))))))))
theorem ref01_shape.body_pc (self : Ty → Option (Bool)) (t1 : Ty) (hself : ∀ a0 r, self a0 = some r → PC Go.Proofs.Try.prog 128 [.agg (tyC a0)] (.b r)) (r : Bool) (hF : ref01_shape.body self t1 = some r) : PC Go.Proofs.Try.prog 128 [.agg (tyC t1)] (.b r) := by
  obtain ⟨z, hr⟩ : ∃ z, some r = some z := ⟨_, rfl⟩
  refine PC_z Go.Proofs.Try.func128 s128_ok (Nat.le_of_ble_eq_true rfl) fun hf => ?_
  unfold b128 start
  unfold ref01_shape.body at hF
  try simp -dsimp only [go_sem]
  refine zcut_of (fun s => ∃ (x3 : Bool), s = ⟨[(1, .ip (tyC t1)), (32, .b x3)], []⟩ ∧ ref01_shape.J1 self t1 x3 = some r) ?_ ?_
  · skip
    try simp -dsimp only [go_sem]
    refine call_ok (ref01_Name_pc t1.n ) (by simp -dsimp only [go_sem]) ?_
    try simp -dsimp only [go_sem]
    refine zif_of (fun h2 => ?_) (fun h2 => ?_)
    · skip
      replace hF := cond_t h2 hF
      try simp -dsimp only [go_sem, h2]
      exact ⟨_, (Wks.ok (by simp -dsimp only [go_sem, h2])), true, rfl, hF⟩
    · skip
      replace hF := cond_f h2 hF
      obtain ⟨c2, h3, hF⟩ := bind_of hF hr
      obtain ⟨h4, c, h3, h5⟩ := ixS_of h3
      simp only [Int.reduceToNat] at h3
      try simp -dsimp only [go_sem, h2, h3, h5]
      refine zif_of (fun h6 => ?_) (fun h6 => ?_)
      · skip
        replace hF := cond_t h6 hF
        try simp -dsimp only [go_sem, h2, h3, h5, h6]
        exact ⟨_, (Wks.ok (by simp -dsimp only [go_sem, h2, h3, h5, h6])), true, rfl, hF⟩
      · skip
        replace hF := cond_f h6 hF
        try simp -dsimp only [go_sem, h2, h3, h5, h6]
        refine zif_of (fun h7 => ?_) (fun h7 => ?_)
        · skip
          replace hF := cond_t h7 hF
          try simp -dsimp only [go_sem, h2, h3, h5, h6, h7]
          refine zif_of (fun h8 => ?_) (fun h8 => ?_)
          · skip
            replace hF := cond_t h8 hF
            try simp -dsimp only [go_sem, h2, h3, h5, h6, h7, h8]
            exact ⟨_, (Wks.ok (by simp -dsimp only [go_sem, h2, h3, h5, h6, h7, h8])), true, rfl, hF⟩
          · skip
            replace hF := cond_f h8 hF
            try simp -dsimp only [go_sem, h2, h3, h5, h6, h7, h8]
            exact ⟨_, (Wks.ok (by simp -dsimp only [go_sem, h2, h3, h5, h6, h7, h8])), (decide (8 < (List.length t1.a : Int))), rfl, hF⟩
        · skip
          replace hF := cond_f h7 hF
          try simp -dsimp only [go_sem, h2, h3, h5, h6, h7]
          exact ⟨_, (Wks.ok (by simp -dsimp only [go_sem, h2, h3, h5, h6, h7])), (decide (8 < (List.length t1.a : Int))), rfl, hF⟩
  clear hF
  rintro _ ⟨x3, rfl, hF⟩ hfit
  unfold ref01_shape.J1 at hF
  try simp -dsimp only [go_sem]
  refine zif_of (fun h9 => ?_) (fun h9 => ?_)
  · skip
    replace hF := cond_t h9 hF
    cases hF
    simp -dsimp only [go_sem, h9]
  · skip
    replace hF := cond_f h9 hF
    try simp -dsimp only [go_sem, h9]
    refine zloop_of (fun m s => ∃ (rest2 : List Ty) (i6 : Nat), List.drop i6 t1.a = rest2 ∧ List.length rest2 = m ∧ s = ⟨[(1, .ip (tyC t1)), (3, .i .i64 (i6 : Int))], []⟩ ∧ ref01_shape.L2 self t1 rest2 i6 = some r) (List.length t1.a) ⟨_, (Wks.ok (by simp -dsimp only [go_sem, h9])), t1.a, 0, rfl, rfl, rfl, hF⟩ ?_
    clear hF
    rintro _ _ ⟨rest2, i6, hd2, rfl, rfl, hF⟩ hfit
    have h12 : List.length t1.a ≤ LIM := by
      have h := hfit.t 1; simp only [e_lk, Nat.reduceBEq, cond_true, cond_false, Fit, FitL, ty_eq, tm_eq, List.length_map] at h; omega
    cases rest2 with
    | nil =>
      have h10 := dn hd2
      unfold ref01_shape.L2 at hF
      cases hF
      simp -dsimp only [go_sem, h9, h10]
    | cons e7 rest2 =>
      obtain ⟨h10, h11, hd2⟩ := dc hd2
      have h13 := wi h10 h12
      unfold ref01_shape.L2 at hF
      obtain ⟨r8, h14, hF⟩ := bind_of hF hr
      try simp -dsimp only [go_sem, h9, h10, h11, h13]
      refine call_ok (hself e7  _ h14) (by simp -dsimp only [go_sem, h9, h10, h11, h13]) ?_
      try simp -dsimp only [go_sem, h9, h10, h11, h13]
      refine zif_of (fun h15 => ?_) (fun h15 => ?_)
      · skip
        replace hF := cond_t h15 hF
        cases hF
        simp -dsimp only [go_sem, h9, h10, h11, h13, h15]
      · skip
        replace hF := cond_f h15 hF
        try simp -dsimp only [go_sem, h9, h10, h11, h13, h15]
        exact ⟨List.length rest2, _, Nat.lt_succ_self _, (Wks.ok (by simp -dsimp only [go_sem, h9, h10, h11, h13, h15])), rest2, i6 + 1, hd2, rfl, rfl, hF⟩
def ref01_shape.fu : Nat → Ty → Option (Bool)
  | 0 => fun _ => none
  | n + 1 => ref01_shape.body (ref01_shape.fu n)
theorem ref01_shape.fu_pc : ∀ (n : Nat) (a0 : Ty) (r : Bool), ref01_shape.fu n a0 = some r → PC Go.Proofs.Try.prog 128 [.agg (tyC a0)] (.b r)
  | 0, a0, r, h => by cases h
  | n + 1, a0, r, h => ref01_shape.body_pc (ref01_shape.fu n) a0 (ref01_shape.fu_pc n) r h
theorem ref01_shape_ok (t : Ty) (self : Ty → Option Bool) (hs : ∀ x ∈ t.a, self x = some (shapeY x)) : ref01_shape.body self t = some (shapeY t) := by
  have key : ∀ (rest : List Ty) (i : Nat), (∀ x ∈ rest, x ∈ t.a) → ref01_shape.L2 self t rest i = some (shapeYs rest) := by
    intro rest
    induction rest with
    | nil => intro i _; rfl
    | cons x l ih =>
      intro i hm
      simp only [ref01_shape.L2, hs x (hm x (List.mem_cons_self ..)), Option.bind_some, shapeYs, ih _ (fun z hz => hm z (List.mem_cons_of_mem _ hz))]
      cases shapeY x <;> rfl
  unfold ref01_shape.body ref01_shape.J1
  rw [key t.a 0 (fun _ h => h), ref01_Name_eq, shapeY_eq]
  cases hn : nameB t.n
  · simp
  · simp only [name_ixS hn, Option.bind_some]
    have e3 : (0 < (t.a.length : Int)) ↔ 0 < t.a.length := by omega
    have e4 : (8 < (t.a.length : Int)) ↔ 8 < t.a.length := by omega
    simp only [e3, e4]
    cases t.v <;> by_cases h : fstC t.n = 39 <;> by_cases h2 : 0 < t.a.length <;> by_cases h3 : 8 < t.a.length <;> simp [h, h2, h3] <;> grind
theorem shapeY_pc : ∀ t : Ty, PC Go.Proofs.Try.prog 128 [.agg (tyC t)] (.b (shapeY t)) :=
  Ty.ind fun t ih => by
    refine ref01_shape.body_pc (fun x => og (x ∈ t.a) (shapeY x)) t (fun x r h => ?_) _ (ref01_shape_ok t _ (fun x h => og_pos h))
    obtain ⟨h1, rfl⟩ := og_of h
    exact ih x h1
/-- sequent/sequentref01.Valid -/
def b110 : SCode :=
  (.seq (.ops [.op (some 1) (.bx (.t 0)),
      .op (some 2) (.mv (.c (.b false)))])
  (cutS (.ops [.op (some 3) (.ld (.t 1) 3 true),
      .call (some 4) (.c (.fn (.func 127) [] [])) [(.t 3)],
      .op (some 5) (.mv (.t 4)),
      .gd 5 true (some 6) (.op (some 6) (.ld (.t 1) 3 true)),
      .gd 5 true (some 7) (.call (some 7) (.c (.fn (.func 128) [] [])) [(.t 6)]),
      .op (some 8) (.pk (.t 5) (.t 7) (.c (.b false))),
      .op (some 2) (.mv (.t 8))])
  .ret))
theorem s110_ok : fnOk Go.Proofs.Try.prog Go.Proofs.Try.f110 ⟨9, [.t 2], b110⟩ = true := by kernel_rfl
def ref01_Valid.J1 (x3 : Bool) : Option (Bool) := some x3
def ref01_Valid (t1 : Ty) : Option (Bool) := (Option.bind (ref01_Small t1) fun r2 => (bif r2 then (ref01_Valid.J1 (shapeY t1)) else (ref01_Valid.J1 false)))
theorem ref01_Valid_pc (t1 : Ty) (r : Bool) (hF : ref01_Valid t1 = some r) : PC Go.Proofs.Try.prog 110 [.agg (tyC t1)] (.b r) := by
  obtain ⟨z, hr⟩ : ∃ z, some r = some z := ⟨_, rfl⟩
  refine PC_z Go.Proofs.Try.func110 s110_ok (Nat.le_of_ble_eq_true rfl) fun hf => ?_
  unfold b110 start
  unfold ref01_Valid at hF
  try simp -dsimp only [go_sem]
  refine zcut_of (fun s => ∃ (x3 : Bool), s = ⟨[(2, .b x3)], []⟩ ∧ ref01_Valid.J1 x3 = some r) ?_ ?_
  · skip
    obtain ⟨r2, h2, hF⟩ := bind_of hF hr
    try simp -dsimp only [go_sem]
    refine call_ok (ref01_Small_pc t1  _ h2) (by simp -dsimp only [go_sem]) ?_
    try simp -dsimp only [go_sem]
    refine zif_of (fun h3 => ?_) (fun h3 => ?_)
    · skip
      replace hF := cond_t h3 hF
      try simp -dsimp only [go_sem, h3]
      refine call_ok (shapeY_pc t1 ) (by simp -dsimp only [go_sem, h3]) ?_
      try simp -dsimp only [go_sem, h3]
      exact ⟨_, (Wks.ok (by simp -dsimp only [go_sem, h3])), (shapeY t1), rfl, hF⟩
    · skip
      replace hF := cond_f h3 hF
      try simp -dsimp only [go_sem, h3]
      exact ⟨_, (Wks.ok (by simp -dsimp only [go_sem, h3])), false, rfl, hF⟩
  clear hF
  rintro _ ⟨x3, rfl, hF⟩ hfit
  unfold ref01_Valid.J1 at hF
  cases hF
  simp -dsimp only [go_sem]
theorem ref01_Valid_eq (t : Ty) (hb : bkY t ≤ 2 ^ 40) : ref01_Valid t = some (validY t) := by
  unfold ref01_Valid ref01_Small ref01_Small.J1 ref01_Valid.J1
  simp only [szYo_eq hb, dpYo_eq hb, Option.bind_some, validY, Bool.cond_eq_ite]
  grind
/-- sequent/sequentref01.count -/
def b112 : SCode :=
  (.seq (.ops [.op (some 3) (.bx (.t 0)),
      .op (some 6) (.mv (.c (.i .i64 0)))])
  (.seq (.seq (.ops [.op (some 8) (.mv (.t 2)),
      .op (some 9) (.bi .eql (.t 8) (.c (.i .i64 0)))])
  (.cond (.t 9) (.seq (.ops [.op (some 6) (.mv (.c (.i .i64 0)))])
    .ret)
    .skip))
  (.seq (.ops [.op (some 10) (.mv (.t 1)),
      .op (some 11) (.bi .sub (.t 10) (.c (.i .i64 1))),
      .op (some 12) (.fa (.t 3) 1),
      .op (some 13) (.ld (.t 12) 1 false),
      .op (some 14) (.lens (.t 13)),
      .op (some 15) (.bi .quo (.t 14) (.c (.i .i64 100))),
      .op (some 16) (.bi .sub (.t 11) (.t 15)),
      .op (some 1) (.mv (.t 16))])
  (.seq (.seq (.ops [.op (some 7) (.mv (.c (.i .i64 0)))])
  (.block 0 (.loop (.seq (cutS (.ops [.op (some 17) (.mv (.t 7)),
      .op (some 18) (.fa (.t 3) 2),
      .op (some 19) (.ld (.t 18) 1 false),
      .op (some 20) (.len (.t 19)),
      .op (some 21) (.bi .lss (.t 17) (.t 20)),
      .op (some 22) (.mv (.t 21)),
      .gd 22 true (some 23) (.op (some 23) (.mv (.t 1))),
      .gd 22 true (some 24) (.op (some 24) (.bi .gtr (.t 23) (.c (.i .i64 0)))),
      .op (some 25) (.pk (.t 22) (.t 24) (.c (.b false)))])
  (.cond (.t 25) .skip
    (.exit 0)))
  (.seq (.block 1 (.ops [.op (some 28) (.fa (.t 3) 2),
      .op (some 29) (.ld (.t 28) 1 false),
      .op (some 30) (.mv (.t 7)),
      .op (some 31) (.ia 3 (.t 29) (.t 30)),
      .op (some 32) (.ld (.t 31) 3 true),
      .op (some 33) (.mv (.t 1)),
      .op (some 34) (.mv (.t 2)),
      .op (some 35) (.bi .sub (.t 34) (.c (.i .i64 1))),
      .call (some 36) (.c (.fn (.func 112) [] [])) [(.t 32), (.t 33), (.t 35)],
      .op (some 1) (.mv (.t 36))]))
  (.ops [.op (some 26) (.mv (.t 7)),
      .op (some 27) (.bi .add (.t 26) (.c (.i .i64 1))),
      .op (some 7) (.mv (.t 27))]))))))
  (.seq (.ops [.op (some 37) (.mv (.t 1)),
      .op (some 6) (.mv (.t 37))])
  .ret)))))
theorem s112_ok : fnOk Go.Proofs.Try.prog Go.Proofs.Try.f112 ⟨38, [.t 6], b112⟩ = true := by kernel_rfl
def ref01_count.L1 (self : Ty → Int → Int → Option (Int)) (depth3 : Int) (t1 : Ty) : List Ty → Nat → Int → Option (Int)
  | [], i7, left6 => some left6
  | e8 :: rest, i7, left6 => (bif (decide (0 < left6)) then (Option.bind (self e8 left6 (IntKind.i64.wrap (depth3 - 1))) fun r9 => ((ref01_count.L1 self depth3 t1 rest) (i7 + 1) r9)) else some left6)
def ref01_count.body (self : Ty → Int → Int → Option (Int)) (t1 : Ty) (left2 : Int) (depth3 : Int) : Option (Int) := (bif (decide (depth3 = 0)) then some 0 else (ref01_count.L1 self depth3 t1 t1.a 0 (IntKind.i64.wrap ((IntKind.i64.wrap (left2 - 1)) - (IntKind.i64.wrap (Int.tdiv (ByteArray.size t1.n : Int) 100))))))
theorem ref01_count.body_pc (self : Ty → Int → Int → Option (Int)) (t1 : Ty) (left2 : Int) (depth3 : Int) (hself : ∀ a0 a1 a2 r, self a0 a1 a2 = some r → PC Go.Proofs.Try.prog 112 [.agg (tyC a0), .i .i64 a1, .i .i64 a2] (.i .i64 r)) (r : Int) (hF : ref01_count.body self t1 left2 depth3 = some r) : PC Go.Proofs.Try.prog 112 [.agg (tyC t1), .i .i64 left2, .i .i64 depth3] (.i .i64 r) := by
  obtain ⟨z, hr⟩ : ∃ z, some r = some z := ⟨_, rfl⟩
  refine PC_z Go.Proofs.Try.func112 s112_ok (Nat.le_of_ble_eq_true rfl) fun hf => ?_
  unfold b112 start
  unfold ref01_count.body at hF
  try simp -dsimp only [go_sem]
  refine zif_of (fun h1 => ?_) (fun h1 => ?_)
  · skip
    replace hF := cond_t h1 hF
    cases hF
    simp -dsimp only [go_sem, h1]
  · skip
    replace hF := cond_f h1 hF
    try simp -dsimp only [go_sem, h1]
    refine zloop_of (fun m s => ∃ (rest1 : List Ty) (i7 : Nat) (left6 : Int), List.drop i7 t1.a = rest1 ∧ List.length rest1 = m ∧ s = ⟨[(1, .i .i64 left6), (2, .i .i64 depth3), (3, .ip (tyC t1)), (7, .i .i64 (i7 : Int))], []⟩ ∧ ref01_count.L1 self depth3 t1 rest1 i7 left6 = some r) (List.length t1.a) ⟨_, (Wks.ok (by simp -dsimp only [go_sem, h1])), t1.a, 0, (IntKind.i64.wrap ((IntKind.i64.wrap (left2 - 1)) - (IntKind.i64.wrap (Int.tdiv (ByteArray.size t1.n : Int) 100)))), rfl, rfl, rfl, hF⟩ ?_
    clear hF
    rintro _ _ ⟨rest1, i7, left6, hd1, rfl, rfl, hF⟩ hfit
    have h4 : List.length t1.a ≤ LIM := by
      have h := hfit.t 3; simp only [e_lk, Nat.reduceBEq, cond_true, cond_false, Fit, FitL, ty_eq, tm_eq, List.length_map] at h; omega
    cases rest1 with
    | nil =>
      have h2 := dn hd1
      unfold ref01_count.L1 at hF
      try simp -dsimp only [go_sem, h1, h2]
      refine zcut_of (fun s => s = ⟨[(1, .i .i64 left6), (2, .i .i64 depth3), (3, .ip (tyC t1)), (7, .i .i64 (i7 : Int)), (25, .b false)], []⟩) ?_ ?_
      · skip
        try simp -dsimp only [go_sem, h1, h2]
        exact ⟨_, (Wks.ok (by simp -dsimp only [go_sem, h1, h2])), rfl⟩
      rintro _ rfl hfit
      cases hF
      simp -dsimp only [go_sem, h1, h2]
    | cons e8 rest1 =>
      obtain ⟨h2, h3, hd1⟩ := dc hd1
      have h5 := wi h2 h4
      unfold ref01_count.L1 at hF
      try simp -dsimp only [go_sem, h1, h2, h3, h5]
      refine zcut_of (fun s => s = ⟨[(1, .i .i64 left6), (2, .i .i64 depth3), (3, .ip (tyC t1)), (7, .i .i64 (i7 : Int)), (23, .i .i64 left6), (24, .b (decide (0 < left6))), (25, .b (decide (0 < left6)))], []⟩) ?_ ?_
      · skip
        try simp -dsimp only [go_sem, h1, h2, h3, h5]
        exact ⟨_, (Wks.ok (by simp -dsimp only [go_sem, h1, h2, h3, h5])), rfl⟩
      rintro _ rfl hfit
      try simp -dsimp only [go_sem, h1, h2, h3, h5]
      refine zif_of (fun h6 => ?_) (fun h6 => ?_)
      · skip
        replace hF := cond_t h6 hF
        obtain ⟨r9, h7, hF⟩ := bind_of hF hr
        try simp -dsimp only [go_sem, h1, h2, h3, h5, h6]
        refine call_ok (hself e8 left6 (IntKind.i64.wrap (depth3 - 1))  _ h7) (by simp -dsimp only [go_sem, h1, h2, h3, h5, h6]) ?_
        try simp -dsimp only [go_sem, h1, h2, h3, h5, h6]
        exact ⟨List.length rest1, _, Nat.lt_succ_self _, (Wks.ok (by simp -dsimp only [go_sem, h1, h2, h3, h5, h6])), rest1, i7 + 1, r9, hd1, rfl, rfl, hF⟩
      · skip
        replace hF := cond_f h6 hF
        cases hF
        simp -dsimp only [go_sem, h1, h2, h3, h5, h6]
def ref01_count.fu : Nat → Ty → Int → Int → Option (Int)
  | 0 => fun _ _ _ => none
  | n + 1 => ref01_count.body (ref01_count.fu n)
theorem ref01_count.fu_pc : ∀ (n : Nat) (a0 : Ty) (a1 : Int) (a2 : Int) (r : Int), ref01_count.fu n a0 a1 a2 = some r → PC Go.Proofs.Try.prog 112 [.agg (tyC a0), .i .i64 a1, .i .i64 a2] (.i .i64 r)
  | 0, a0, a1, a2, r, h => by cases h
  | n + 1, a0, a1, a2, r, h => ref01_count.body_pc (ref01_count.fu n) a0 a1 a2 (ref01_count.fu_pc n) r h
def cntP (t : Ty) (left d : Int) : Prop := fitY t ∧ 0 < left ∧ left ≤ 2 ^ 40 ∧ 0 ≤ d ∧ d ≤ 2 ^ 40
noncomputable def cntYo (t : Ty) (left d : Int) : Option Int := og (cntP t left d) (cntY t left d)
theorem ref01_count_ok (t : Ty) (left d : Int) (self : Ty → Int → Int → Option Int) (hs : ∀ x ∈ t.a, ∀ l e, cntP x l e → self x l e = some (cntY x l e)) (h : cntP t left d) : ref01_count.body self t left d = some (cntY t left d) := by
  obtain ⟨hf, h1, h2, h3, h4⟩ := h
  rw [fitY_eq] at hf
  have hr := tdiv_rng t.n.size hf.1
  have key : ∀ (rest : List Ty) (i : Nat) (l : Int), (∀ x ∈ rest, x ∈ t.a) → fitYs rest → -2 ^ 40 ≤ l → l ≤ 2 ^ 40 → 1 ≤ d → ref01_count.L1 self d t rest i l = some (cntYs rest l (d - 1)) := by
    intro rest
    induction rest with
    | nil => intro i l _ _ _ _ _; simp [ref01_count.L1, cntYs]
    | cons x r ih =>
      intro i l hm hf k1 k2 k3
      simp only [fitYs] at hf
      simp only [ref01_count.L1, cntYs]
      by_cases hl : 0 < l
      · have hrg := cntY_rng x l (d - 1) hf.1 hl
        rw [wr64 (by omega) (by omega), hs x (hm x (List.mem_cons_self ..)) _ _ ⟨hf.1, hl, k2, by omega, by omega⟩]
        simp only [Option.bind_some, hl, decide_true, cond_true, if_true]
        exact ih _ _ (fun z hz => hm z (List.mem_cons_of_mem _ hz)) hf.2 (by omega) (by omega) k3
      · simp [hl]
  unfold ref01_count.body
  rw [cntY_eq]
  by_cases hd : d = 0
  · simp [hd]
  · simp only [hd, decide_false, cond_false, if_false]
    rw [wr64 (n := Int.tdiv _ _) (by omega) (by omega), wr64 (n := left - 1) (by omega) (by omega), wr64 (by omega) (by omega)]
    exact key t.a 0 _ (fun _ h => h) hf.2.2 (by omega) (by omega) (by omega)
theorem cntYo_pc : ∀ (t : Ty) (left d r : Int), cntYo t left d = some r → PC Go.Proofs.Try.prog 112 [.agg (tyC t), .i .i64 left, .i .i64 d] (.i .i64 r) :=
  Ty.ind fun t ih left d r hr => by
    obtain ⟨hb, rfl⟩ := og_of hr
    refine ref01_count.body_pc (fun x l e => og (x ∈ t.a ∧ cntP x l e) (cntY x l e)) t left d (fun x l e r h => ?_) _ (ref01_count_ok t left d _ (fun x h l e k => og_pos ⟨h, k⟩) hb)
    obtain ⟨h1, rfl⟩ := og_of h
    exact ih x h1.1 _ _ _ (og_pos h1.2)
/-- sequent/sequentref01.Great -/
def b90 : SCode :=
  (.seq (.ops [.op (some 1) (.bx (.t 0)),
      .op (some 2) (.mv (.c (.b false)))])
  (.seq (.ops [.op (some 3) (.ld (.t 1) 3 true),
      .call (some 4) (.c (.fn (.func 112) [] [])) [(.t 3), (.c (.i .i64 1500)), (.c (.i .i64 500))],
      .op (some 5) (.bi .leq (.t 4) (.c (.i .i64 0))),
      .op (some 2) (.mv (.t 5))])
  .ret))
theorem s90_ok : fnOk Go.Proofs.Try.prog Go.Proofs.Try.f90 ⟨6, [.t 2], b90⟩ = true := by kernel_rfl
def ref01_Great (t1 : Ty) : Option (Bool) := (Option.bind (cntYo t1 1500 500) fun r2 => some (decide (r2 ≤ 0)))
theorem ref01_Great_pc (t1 : Ty) (r : Bool) (hF : ref01_Great t1 = some r) : PC Go.Proofs.Try.prog 90 [.agg (tyC t1)] (.b r) := by
  obtain ⟨z, hr⟩ : ∃ z, some r = some z := ⟨_, rfl⟩
  refine PC_z Go.Proofs.Try.func90 s90_ok (Nat.le_of_ble_eq_true rfl) fun hf => ?_
  unfold b90 start
  unfold ref01_Great at hF
  obtain ⟨r2, h1, hF⟩ := bind_of hF hr
  try simp -dsimp only [go_sem]
  refine call_ok (cntYo_pc t1 1500 500  _ h1) (by simp -dsimp only [go_sem]) ?_
  cases hF
  simp -dsimp only [go_sem]
theorem ref01_Great_eq (t : Ty) (h : fitY t) : ref01_Great t = some (greatY t) := by
  unfold ref01_Great cntYo
  rw [og_pos ⟨h, by omega, by omega, by omega, by omega⟩]
  rfl

end
end Go.Ab.Q
