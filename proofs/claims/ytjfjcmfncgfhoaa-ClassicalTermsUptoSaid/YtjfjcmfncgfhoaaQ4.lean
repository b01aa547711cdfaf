/- A part of the proof: Q4. -/
import Derived.Test.YtjfjcmfncgfhoaaAbY
import Derived.Test.YtjfjcmfncgfhoaaProg
import Derived.KernelRfl
import Derived.Test.YtjfjcmfncgfhoaaQ1
import Derived.Test.YtjfjcmfncgfhoaaQ2
import Derived.Test.YtjfjcmfncgfhoaaQ3
set_option linter.all false
set_option maxRecDepth 100000
set_option maxHeartbeats 4000000
set_option linter.unusedSimpArgs false
set_option linter.unusedVariables false
namespace Go.Ab.Q
open Go.RowKit
noncomputable section

/-- sequent/terms.plain -/
def b123 : SCode :=
  (.seq (.ops [.op (some 4) (.bx (.t 0)),
      .op (some 8) (.mv (.c (.b false)))])
  (cutS (.ops (.op (some 9) (.mv (.t 1)) ::
      .op (some 10) (.mv (.t 9)) ::
      .gd 10 false (some 11) (.op (some 11) (.fa (.t 4) 1)) ::
      .gd 10 false (some 12) (.op (some 12) (.ld (.t 11) 1 false)) ::
      .gd 10 false (some 13) (.op (some 13) (.bi .eql (.t 12) (.c (.s { data := #[] })))) ::
      .op (some 14) (.pk (.t 10) (.c (.b true)) (.t 13)) ::
      .op (some 15) (.mv (.t 14)) ::
      .gd 15 true (some 16) (.op (some 16) (.mv (.t 2))) ::
      .gd 15 true (some 17) (.op (some 17) (.mv (.t 16))) ::
      .gd 17 false (some 18) (.op (some 18) (.fa (.t 4) 2)) ::
      .gd 17 false (some 19) (.op (some 19) (.fa (.t 18) 0)) ::
      .gd 17 false (some 20) (.op (some 20) (.ld (.t 19) 1 false)) ::
      .gd 17 false (some 21) (.op (some 21) (.un .not (.t 20))) ::
      .gd 17 false (some 22) (.op (some 22) (.mv (.t 21))) ::
      .gd 22 true (some 23) (.op (some 23) (.fa (.t 4) 2)) ::
      .gd 22 true (some 24) (.op (some 24) (.fa (.t 23) 1)) ::
      .gd 22 true (some 25) (.op (some 25) (.ld (.t 24) 1 false)) ::
      .gd 22 true (some 26) (.op (some 26) (.bi .eql (.t 25) (.c (.s { data := #[] })))) ::
      .gd 17 false (some 27) (.op (some 27) (.pk (.t 22) (.t 26) (.c (.b false)))) ::
      .gd 17 false (some 28) (.op (some 28) (.mv (.t 27))) ::
      .gd 28 true (some 29) (.op (some 29) (.fa (.t 4) 2)) ::
      .gd 28 true (some 30) (.op (some 30) (.fa (.t 29) 2)) ::
      .gd 28 true (some 31) (.op (some 31) (.ld (.t 30) 1 false)) ::
      .gd 28 true (some 32) (.op (some 32) (.len (.t 31))) ::
      .gd 28 true (some 33) (.op (some 33) (.bi .eql (.t 32) (.c (.i .i64 0)))) ::
      .gd 17 false (some 34) (.op (some 34) (.pk (.t 28) (.t 33) (.c (.b false)))) ::
      .gd 15 true (some 35) (.op (some 35) (.pk (.t 17) (.c (.b true)) (.t 34))) ::
      .op (some 36) (.pk (.t 15) (.t 35) (.c (.b false))) ::
      .op (some 37) (.mv (.t 36)) ::
      .gd 37 true (some 38) (.op (some 38) (.mv (.t 3))) ::
      .gd 37 true (some 39) (.op (some 39) (.mv (.t 38))) ::
      .gd 39 false (some 40) (.op (some 40) (.fa (.t 4) 5)) ::
      .gd 39 false (some 41) (.op (some 41) (.ld (.t 40) 1 false)) ::
      .gd 39 false (some 42) (.op (some 42) (.bi .eql (.t 41) (.c (.i .i64 0)))) ::
      .gd 37 true (some 43) (.op (some 43) (.pk (.t 39) (.c (.b true)) (.t 42))) ::
      .op (some 44) (.pk (.t 37) (.t 43) (.c (.b false))) ::
      .op (some 8) (.mv (.t 44)) ::
      []))
  .ret))
theorem s123_ok : fnOk Go.Proofs.Try.prog Go.Proofs.Try.f123 ⟨45, [.t 8], b123⟩ = true := by kernel_rfl
def terms_plain (t1 : Tm) (name2 : Bool) (typ3 : Bool) (index4 : Bool) : Bool := (bif name2 then (bif typ3 then (index4 || (decide (t1.i = 0))) else ((!t1.y.v) && ((decide (t1.y.n = (⟨#[]⟩ : ByteArray))) && ((decide ((List.length t1.y.a : Int) = 0)) && (index4 || (decide (t1.i = 0))))))) else ((decide (t1.n = (⟨#[]⟩ : ByteArray))) && (bif typ3 then (index4 || (decide (t1.i = 0))) else ((!t1.y.v) && ((decide (t1.y.n = (⟨#[]⟩ : ByteArray))) && ((decide ((List.length t1.y.a : Int) = 0)) && (index4 || (decide (t1.i = 0)))))))))
theorem terms_plain_pc (t1 : Tm) (name2 : Bool) (typ3 : Bool) (index4 : Bool) : PC Go.Proofs.Try.prog 123 [.agg (tmC t1), .b name2, .b typ3, .b index4] (.b (terms_plain t1 name2 typ3 index4)) := by
  obtain ⟨r, hF⟩ : ∃ r, terms_plain t1 name2 typ3 index4 = r := ⟨_, rfl⟩
  rw [hF]
  refine PC_z Go.Proofs.Try.func123 s123_ok (Nat.le_of_ble_eq_true rfl) fun hf => ?_
  unfold b123 start
  unfold terms_plain at hF
  try simp -dsimp only [go_sem]
  refine zcut_of (fun s => s = ⟨[(8, .b (bif name2 then (bif typ3 then (index4 || (decide (t1.i = 0))) else ((!t1.y.v) && ((decide (t1.y.n = (⟨#[]⟩ : ByteArray))) && ((decide ((List.length t1.y.a : Int) = 0)) && (index4 || (decide (t1.i = 0))))))) else ((decide (t1.n = (⟨#[]⟩ : ByteArray))) && (bif typ3 then (index4 || (decide (t1.i = 0))) else ((!t1.y.v) && ((decide (t1.y.n = (⟨#[]⟩ : ByteArray))) && ((decide ((List.length t1.y.a : Int) = 0)) && (index4 || (decide (t1.i = 0))))))))))], []⟩) ?_ ?_
  · skip
    try simp -dsimp only [go_sem]
    refine zif_of (fun h1 => ?_) (fun h1 => ?_)
    · skip
      try simp -dsimp only [go_sem, h1]
      refine zif_of (fun h2 => ?_) (fun h2 => ?_)
      · skip
        try simp -dsimp only [go_sem, h1, h2]
        refine zif_of (fun h3 => ?_) (fun h3 => ?_)
        · skip
          try simp -dsimp only [go_sem, h1, h2, h3]
          exact ⟨_, (Wks.ok (by simp -dsimp only [go_sem, h1, h2, h3])), rfl⟩
        · skip
          try simp -dsimp only [go_sem, h1, h2, h3]
          exact ⟨_, (Wks.ok (by simp -dsimp only [go_sem, h1, h2, h3])), rfl⟩
      · skip
        try simp -dsimp only [go_sem, h1, h2]
        refine zif_of (fun h4 => ?_) (fun h4 => ?_)
        · skip
          try simp -dsimp only [go_sem, h1, h2, h4]
          refine zif_of (fun h5 => ?_) (fun h5 => ?_)
          · skip
            try simp -dsimp only [go_sem, h1, h2, h4, h5]
            refine zif_of (fun h6 => ?_) (fun h6 => ?_)
            · skip
              try simp -dsimp only [go_sem, h1, h2, h4, h5, h6]
              refine zif_of (fun h7 => ?_) (fun h7 => ?_)
              · skip
                try simp -dsimp only [go_sem, h1, h2, h4, h5, h6, h7]
                exact ⟨_, (Wks.ok (by simp -dsimp only [go_sem, h1, h2, h4, h5, h6, h7])), rfl⟩
              · skip
                try simp -dsimp only [go_sem, h1, h2, h4, h5, h6, h7]
                exact ⟨_, (Wks.ok (by simp -dsimp only [go_sem, h1, h2, h4, h5, h6, h7])), rfl⟩
            · skip
              try simp -dsimp only [go_sem, h1, h2, h4, h5, h6]
              exact ⟨_, (Wks.ok (by simp -dsimp only [go_sem, h1, h2, h4, h5, h6])), rfl⟩
          · skip
            try simp -dsimp only [go_sem, h1, h2, h4, h5]
            exact ⟨_, (Wks.ok (by simp -dsimp only [go_sem, h1, h2, h4, h5])), rfl⟩
        · skip
          try simp -dsimp only [go_sem, h1, h2, h4]
          exact ⟨_, (Wks.ok (by simp -dsimp only [go_sem, h1, h2, h4])), rfl⟩
    · skip
      try simp -dsimp only [go_sem, h1]
      refine zif_of (fun h8 => ?_) (fun h8 => ?_)
      · skip
        try simp -dsimp only [go_sem, h1, h8]
        refine zif_of (fun h9 => ?_) (fun h9 => ?_)
        · skip
          try simp -dsimp only [go_sem, h1, h8, h9]
          refine zif_of (fun h10 => ?_) (fun h10 => ?_)
          · skip
            try simp -dsimp only [go_sem, h1, h8, h9, h10]
            exact ⟨_, (Wks.ok (by simp -dsimp only [go_sem, h1, h8, h9, h10])), rfl⟩
          · skip
            try simp -dsimp only [go_sem, h1, h8, h9, h10]
            exact ⟨_, (Wks.ok (by simp -dsimp only [go_sem, h1, h8, h9, h10])), rfl⟩
        · skip
          try simp -dsimp only [go_sem, h1, h8, h9]
          refine zif_of (fun h11 => ?_) (fun h11 => ?_)
          · skip
            try simp -dsimp only [go_sem, h1, h8, h9, h11]
            refine zif_of (fun h12 => ?_) (fun h12 => ?_)
            · skip
              try simp -dsimp only [go_sem, h1, h8, h9, h11, h12]
              refine zif_of (fun h13 => ?_) (fun h13 => ?_)
              · skip
                try simp -dsimp only [go_sem, h1, h8, h9, h11, h12, h13]
                refine zif_of (fun h14 => ?_) (fun h14 => ?_)
                · skip
                  try simp -dsimp only [go_sem, h1, h8, h9, h11, h12, h13, h14]
                  exact ⟨_, (Wks.ok (by simp -dsimp only [go_sem, h1, h8, h9, h11, h12, h13, h14])), rfl⟩
                · skip
                  try simp -dsimp only [go_sem, h1, h8, h9, h11, h12, h13, h14]
                  exact ⟨_, (Wks.ok (by simp -dsimp only [go_sem, h1, h8, h9, h11, h12, h13, h14])), rfl⟩
              · skip
                try simp -dsimp only [go_sem, h1, h8, h9, h11, h12, h13]
                exact ⟨_, (Wks.ok (by simp -dsimp only [go_sem, h1, h8, h9, h11, h12, h13])), rfl⟩
            · skip
              try simp -dsimp only [go_sem, h1, h8, h9, h11, h12]
              exact ⟨_, (Wks.ok (by simp -dsimp only [go_sem, h1, h8, h9, h11, h12])), rfl⟩
          · skip
            try simp -dsimp only [go_sem, h1, h8, h9, h11]
            exact ⟨_, (Wks.ok (by simp -dsimp only [go_sem, h1, h8, h9, h11])), rfl⟩
      · skip
        try simp -dsimp only [go_sem, h1, h8]
        exact ⟨_, (Wks.ok (by simp -dsimp only [go_sem, h1, h8])), rfl⟩
  rintro _ rfl hfit
  subst hF
  simp -dsimp only [go_sem]
theorem plain_tt (t : Tm) : terms_plain t true true false = decide (t.i = 0) := by simp [terms_plain]
theorem plain_ff (t : Tm) (b : Bool) : terms_plain t false false b = (decide (t.n = ⟨#[]⟩) && (noneY t.y && (b || decide (t.i = 0)))) := by
  have e : ((t.y.a.length : Int) = 0) ↔ t.y.a.length = 0 := by omega
  simp only [terms_plain, noneY, e, cond_false, Bool.and_assoc]
/-- sequent/terms.named -/
def b124 : SCode :=
  (.seq (.ops [.op (some 2) (.mv (.c (.b false)))])
  (.seq (.ops [.op (some 3) (.mv (.t 0)),
      .op (some 4) (.bld zTy [(1, 1, (.t 3))]),
      .call (some 5) (.c (.fn (.func 125) [] [])) [(.t 4)],
      .op (some 6) (.bi .eql (.t 5) (.c (.i .i64 0))),
      .op (some 2) (.mv (.t 6))])
  .ret))
theorem s124_ok : fnOk Go.Proofs.Try.prog Go.Proofs.Try.f124 ⟨7, [.t 2], b124⟩ = true := by kernel_rfl
def terms_named (s1 : ByteArray) : Option (Bool) := (Option.bind (types_Check (Ty.mk false s1 [])) fun r2 => some (decide (r2 = 0)))
theorem terms_named_pc (s1 : ByteArray) (r : Bool) (hF : terms_named s1 = some r) : PC Go.Proofs.Try.prog 124 [.s s1] (.b r) := by
  obtain ⟨z, hr⟩ : ∃ z, some r = some z := ⟨_, rfl⟩
  refine PC_z Go.Proofs.Try.func124 s124_ok (Nat.le_of_ble_eq_true rfl) fun hf => ?_
  unfold b124 start
  unfold terms_named at hF
  obtain ⟨r2, h1, hF⟩ := bind_of hF hr
  try simp -dsimp only [go_sem]
  refine call_ok (types_Check_pc (Ty.mk false s1 [])  _ h1) (by simp -dsimp only [go_sem]) ?_
  cases hF
  simp -dsimp only [go_sem]
theorem shapeY_leaf (s : ByteArray) : validY (Ty.mk false s []) = nameT s := by
  simp [validY, szY, szYs, dpY, dpYs, shapeY, shapeYs, nameT]
theorem terms_named_eq (s : ByteArray) (h : s.size ≤ 2 ^ 39) : terms_named s = some (nameT s) := by
  unfold terms_named
  rw [types_Check_eq _ (by simp [bkY, bkYs]; omega), shapeY_leaf]
  cases nameT s <;> simp
/-- sequent/terms.formed -/
def b106 : SCode :=
  (.seq (.ops [.op (some 2) (.bx (.t 0)),
      .op (some 4) (.alm 24 zTy),
      .op (some 5) (.mv (.c (.b false)))])
  (.seq (.seq (.ops [.op (some 12) (.fa (.t 2) 0),
      .op (some 13) (.ld (.t 12) 1 false)])
  (.block 0 (cutS (.seq (.ops [.op (some 15) (.bi .eql (.t 13) (.c (.i .u8 1))),
      .op (some 14) (.mv (.t 15))])
  (.cond (.t 14) .skip
    (.ops [.op (some 16) (.bi .eql (.t 13) (.c (.i .u8 2))),
        .op (some 14) (.mv (.t 16))])))
  (.cond (.t 14) (cutS (.draw [.op (some 17) (.fa (.t 2) 2),
        .op (some 18) (.ldi (.t 17) 3 true),
        .op (some 19) (.ldi (.t 2) 7 true),
        .call (some 20) (.c (.fn (.func 123) [] [])) [(.t 19), (.c (.b true)), (.c (.b true)), (.c (.b false))],
        .op (some 21) (.mv (.t 20)),
        .gd 21 true (some 22) (.op (some 22) (.fa (.t 2) 1)),
        .gd 21 true (some 23) (.op (some 23) (.ldi (.t 22) 1 false)),
        .gd 21 true (some 24) (.call (some 24) (.c (.fn (.func 124) [] [])) [(.t 23)]),
        .op (some 25) (.pk (.t 21) (.t 24) (.c (.b false))),
        .op (some 26) (.mv (.t 25)),
        .gd 26 true (some 27) (.op (some 27) (.fa (.t 2) 6)),
        .gd 26 true (some 28) (.op (some 28) (.ldi (.t 27) 1 false)),
        .gd 26 true (some 29) (.op (some 29) (.len (.t 28))),
        .gd 26 true (some 30) (.op (some 30) (.bi .eql (.t 29) (.c (.i .i64 0)))),
        .op (some 31) (.pk (.t 26) (.t 30) (.c (.b false))),
        .op (some 32) (.mv (.t 31)),
        .gd 32 true (some 33) (.op (some 33) (.fa (.t 2) 2)),
        .gd 32 true (some 34) (.op (some 34) (.ldi (.t 33) 3 true)),
        .gd 32 true (some 35) (.call (some 35) (.c (.fn (.func 125) [] [])) [(.t 34)]),
        .gd 32 true (some 36) (.op (some 36) (.bi .eql (.t 35) (.c (.i .i64 0)))),
        .op (some 37) (.pk (.t 32) (.t 36) (.c (.b false))),
        .op none (.st (.t 4) 3 (.t 18)),
        .op (some 5) (.mv (.t 37))])
    .ret)
    (.seq (.ops [.op (some 39) (.bi .eql (.t 13) (.c (.i .u8 3))),
        .op (some 38) (.mv (.t 39))])
    (.cond (.t 38) (.seq (cutS (.ops [.op (some 40) (.ld (.t 2) 7 true),
          .call (some 41) (.c (.fn (.func 123) [] [])) [(.t 40), (.c (.b false)), (.c (.b false)), (.c (.b true))],
          .op (some 42) (.un .not (.t 41)),
          .op (some 43) (.mv (.t 42)),
          .gd 43 false (some 44) (.op (some 44) (.fa (.t 2) 6)),
          .gd 43 false (some 45) (.op (some 45) (.ld (.t 44) 1 false)),
          .gd 43 false (some 46) (.op (some 46) (.len (.t 45))),
          .gd 43 false (some 47) (.op (some 47) (.bi .gtr (.t 46) (.c (.i .i64 0)))),
          .op (some 48) (.pk (.t 43) (.c (.b true)) (.t 47)),
          .op (some 49) (.mv (.t 48)),
          .gd 49 false (some 50) (.op (some 50) (.fa (.t 2) 5)),
          .gd 49 false (some 51) (.op (some 51) (.ld (.t 50) 1 false)),
          .gd 49 false (some 52) (.op (some 52) (.bi .lss (.t 51) (.c (.i .i64 0)))),
          .op (some 53) (.pk (.t 49) (.c (.b true)) (.t 52)),
          .op (some 54) (.mv (.t 53)),
          .gd 54 false (some 55) (.op (some 55) (.fa (.t 2) 5)),
          .gd 54 false (some 56) (.op (some 56) (.ld (.t 55) 1 false)),
          .gd 54 false (some 57) (.op (some 57) (.mv (.t 1))),
          .gd 54 false (some 58) (.op (some 58) (.len (.t 57))),
          .gd 54 false (some 59) (.op (some 59) (.bi .geq (.t 56) (.t 58))),
          .op (some 60) (.pk (.t 54) (.c (.b true)) (.t 59))])
      (.cond (.t 60) (.seq (.ops [.op (some 61) (.ld (.t 4) 3 true),
            .op none (.st (.t 4) 3 (.t 61)),
            .op (some 5) (.mv (.c (.b false)))])
        .ret)
        .skip))
      (.seq (.ops [.op (some 62) (.mv (.t 1)),
          .op (some 63) (.mv (.t 1)),
          .op (some 64) (.len (.t 63)),
          .op (some 65) (.bi .sub (.t 64) (.c (.i .i64 1))),
          .op (some 66) (.fa (.t 2) 5),
          .op (some 67) (.ld (.t 66) 1 false),
          .op (some 68) (.bi .sub (.t 65) (.t 67)),
          .op (some 69) (.ia 3 (.t 62) (.t 68)),
          .op (some 70) (.ld (.t 69) 3 true),
          .op none (.st (.t 4) 3 (.t 70)),
          .op (some 5) (.mv (.c (.b true)))])
      .ret))
      (.seq (.ops [.op (some 72) (.bi .eql (.t 13) (.c (.i .u8 4))),
          .op (some 71) (.mv (.t 72))])
      (.cond (.t 71) (.seq (cutS (.ops [.op (some 73) (.ld (.t 2) 7 true),
            .call (some 74) (.c (.fn (.func 123) [] [])) [(.t 73), (.c (.b false)), (.c (.b false)), (.c (.b false))],
            .op (some 75) (.un .not (.t 74)),
            .op (some 76) (.mv (.t 75)),
            .gd 76 false (some 77) (.op (some 77) (.fa (.t 2) 6)),
            .gd 76 false (some 78) (.op (some 78) (.ld (.t 77) 1 false)),
            .gd 76 false (some 79) (.op (some 79) (.len (.t 78))),
            .gd 76 false (some 80) (.op (some 80) (.bi .neq (.t 79) (.c (.i .i64 2)))),
            .op (some 81) (.pk (.t 76) (.c (.b true)) (.t 80))])
        (.cond (.t 81) (.seq (.ops [.op (some 82) (.ld (.t 4) 3 true),
              .op none (.st (.t 4) 3 (.t 82)),
              .op (some 5) (.mv (.c (.b false)))])
          .ret)
          .skip))
        (.seq (.ops [.op (some 84) (.fa (.t 2) 6),
            .op (some 85) (.ld (.t 84) 1 false),
            .op (some 86) (.ia 7 (.t 85) (.c (.i .i64 0))),
            .op (some 87) (.ld (.t 86) 7 true),
            .op (some 88) (.mv (.t 1)),
            .call (some 89) (.c (.fn (.func 106) [] [])) [(.t 87), (.t 88)],
            .op (some 83) (.mv (.t 89)),
            .op (some 90) (.ext (.t 83) 0),
            .op (some 91) (.ext (.t 83) 1),
            .op (some 6) (.alm 24 zTy),
            .op none (.st (.t 6) 3 (.t 90)),
            .op (some 7) (.mv (.t 91))])
        (.seq (.ops [.op (some 93) (.fa (.t 2) 6),
            .op (some 94) (.ld (.t 93) 1 false),
            .op (some 95) (.ia 7 (.t 94) (.c (.i .i64 1))),
            .op (some 96) (.ld (.t 95) 7 true),
            .op (some 97) (.mv (.t 1)),
            .call (some 98) (.c (.fn (.func 106) [] [])) [(.t 96), (.t 97)],
            .op (some 92) (.mv (.t 98)),
            .op (some 99) (.ext (.t 92) 0),
            .op (some 100) (.ext (.t 92) 1),
            .op (some 8) (.alm 24 zTy),
            .op none (.st (.t 8) 3 (.t 99)),
            .op (some 9) (.mv (.t 100))])
        (.seq (cutS (.draw [.op (some 101) (.mv (.t 7)),
            .op (some 102) (.un .not (.t 101)),
            .op (some 103) (.mv (.t 102)),
            .gd 103 false (some 104) (.op (some 104) (.mv (.t 9))),
            .gd 103 false (some 105) (.op (some 105) (.un .not (.t 104))),
            .op (some 106) (.pk (.t 103) (.c (.b true)) (.t 105)),
            .op (some 107) (.mv (.t 106)),
            .gd 107 false (some 108) (.op (some 108) (.fa (.t 6) 0)),
            .gd 107 false (some 109) (.op (some 109) (.ld (.t 108) 1 false)),
            .op (some 110) (.pk (.t 107) (.c (.b true)) (.t 109)),
            .op (some 111) (.mv (.t 110)),
            .gd 111 false (some 112) (.op (some 112) (.fa (.t 6) 1)),
            .gd 111 false (some 113) (.op (some 113) (.ld (.t 112) 1 false)),
            .gd 111 false (some 114) (.op (some 114) (.bi .neq (.t 113) (.c (.s { data := #[102, 117, 110] })))),
            .op (some 115) (.pk (.t 111) (.c (.b true)) (.t 114)),
            .op (some 116) (.mv (.t 115)),
            .gd 116 false (some 117) (.op (some 117) (.fa (.t 6) 2)),
            .gd 116 false (some 118) (.op (some 118) (.ld (.t 117) 1 false)),
            .gd 116 false (some 119) (.op (some 119) (.len (.t 118))),
            .gd 116 false (some 120) (.op (some 120) (.bi .neq (.t 119) (.c (.i .i64 2)))),
            .op (some 121) (.pk (.t 116) (.c (.b true)) (.t 120)),
            .op (some 122) (.mv (.t 121)),
            .gd 122 false (some 123) (.op (some 123) (.fa (.t 6) 2)),
            .gd 122 false (some 124) (.op (some 124) (.ld (.t 123) 1 false)),
            .gd 122 false (some 125) (.op (some 125) (.ia 3 (.t 124) (.c (.i .i64 0)))),
            .gd 122 false (some 126) (.op (some 126) (.ld (.t 125) 3 true)),
            .gd 122 false (some 127) (.op (some 127) (.ld (.t 8) 3 true)),
            .gd 122 false (some 128) (.call (some 128) (.c (.fn (.func 51) [] [])) [(.t 126), (.t 127)]),
            .gd 122 false (some 129) (.op (some 129) (.un .not (.t 128))),
            .op (some 130) (.pk (.t 122) (.c (.b true)) (.t 129))])
        (.cond (.t 130) (.seq (.ops [.op (some 131) (.ld (.t 4) 3 true),
              .op none (.st (.t 4) 3 (.t 131)),
              .op (some 5) (.mv (.c (.b false)))])
          .ret)
          .skip))
        (.seq (.ops [.op (some 132) (.fa (.t 6) 2),
            .op (some 133) (.ld (.t 132) 1 false),
            .op (some 134) (.ia 3 (.t 133) (.c (.i .i64 1))),
            .op (some 135) (.ld (.t 134) 3 true),
            .op none (.st (.t 4) 3 (.t 135)),
            .op (some 5) (.mv (.c (.b true)))])
        .ret)))))
        (.seq (.ops [.op (some 137) (.bi .eql (.t 13) (.c (.i .u8 5))),
            .op (some 136) (.mv (.t 137))])
        (.cond (.t 136) (.seq (cutS (.ops [.op (some 138) (.ld (.t 2) 7 true),
              .call (some 139) (.c (.fn (.func 123) [] [])) [(.t 138), (.c (.b true)), (.c (.b true)), (.c (.b false))],
              .op (some 140) (.un .not (.t 139)),
              .op (some 141) (.mv (.t 140)),
              .gd 141 false (some 142) (.op (some 142) (.fa (.t 2) 6)),
              .gd 141 false (some 143) (.op (some 143) (.ld (.t 142) 1 false)),
              .gd 141 false (some 144) (.op (some 144) (.len (.t 143))),
              .gd 141 false (some 145) (.op (some 145) (.bi .neq (.t 144) (.c (.i .i64 1)))),
              .op (some 146) (.pk (.t 141) (.c (.b true)) (.t 145)),
              .op (some 147) (.mv (.t 146)),
              .gd 147 false (some 148) (.op (some 148) (.fa (.t 2) 1)),
              .gd 147 false (some 149) (.op (some 149) (.ld (.t 148) 1 false)),
              .gd 147 false (some 150) (.call (some 150) (.c (.fn (.func 124) [] [])) [(.t 149)]),
              .gd 147 false (some 151) (.op (some 151) (.un .not (.t 150))),
              .op (some 152) (.pk (.t 147) (.c (.b true)) (.t 151)),
              .op (some 153) (.mv (.t 152)),
              .gd 153 false (some 154) (.op (some 154) (.fa (.t 2) 2)),
              .gd 153 false (some 155) (.op (some 155) (.ld (.t 154) 3 true)),
              .gd 153 false (some 156) (.call (some 156) (.c (.fn (.func 125) [] [])) [(.t 155)]),
              .gd 153 false (some 157) (.op (some 157) (.bi .neq (.t 156) (.c (.i .i64 0)))),
              .op (some 158) (.pk (.t 153) (.c (.b true)) (.t 157))])
          (.cond (.t 158) (.seq (.ops [.op (some 159) (.ld (.t 4) 3 true),
                .op none (.st (.t 4) 3 (.t 159)),
                .op (some 5) (.mv (.c (.b false)))])
            .ret)
            .skip))
          (.seq (.draw [.op (some 161) (.fa (.t 2) 6),
              .op (some 162) (.ldi (.t 161) 1 false),
              .op (some 163) (.ia 7 (.t 162) (.c (.i .i64 0))),
              .op (some 164) (.ld (.t 163) 7 true),
              .op (some 165) (.mv (.t 1)),
              .op (some 166) (.mv (.t 1)),
              .op (some 167) (.len (.t 166)),
              .op (some 168) (.mv (.t 1)),
              .op (some 169) (.len (.t 168)),
              .op (some 170) (.slc 3 (.t 165) none (some (.t 167)) (some (.t 169))),
              .op (some 171) (.fa (.t 2) 2),
              .op (some 172) (.ldi (.t 171) 3 true),
              .op (some 173) (.bsl 3 [(.t 172)]),
              .op (some 174) (.apt 24 3 (.t 170) (.t 173)),
              .call (some 175) (.c (.fn (.func 106) [] [])) [(.t 164), (.t 174)],
              .op (some 160) (.mv (.t 175)),
              .op (some 176) (.ext (.t 160) 0),
              .op (some 177) (.ext (.t 160) 1),
              .op (some 10) (.alm 24 zTy),
              .op none (.st (.t 10) 3 (.t 176)),
              .op (some 11) (.mv (.t 177))])
          (.seq (.seq (.ops [.op (some 178) (.mv (.t 11)),
              .op (some 179) (.un .not (.t 178))])
          (.cond (.t 179) (.seq (.ops [.op (some 180) (.ld (.t 4) 3 true),
                .op none (.st (.t 4) 3 (.t 180)),
                .op (some 5) (.mv (.c (.b false)))])
            .ret)
            .skip))
          (.seq (.ops [.op (some 181) (.fa (.t 2) 2),
              .op (some 182) (.ld (.t 181) 3 true),
              .op (some 183) (.ld (.t 10) 3 true),
              .op (some 184) (.bsl 3 [(.t 182), (.t 183)]),
              .op (some 185) (.bld zTy [(1, 1, (.c (.s { data := #[102, 117, 110] }))), (2, 1, (.t 184))]),
              .op none (.st (.t 4) 3 (.t 185))])
          (.seq (.draw [.op (some 186) (.ld (.t 4) 3 true),
              .op (some 187) (.ld (.t 4) 3 true),
              .call (some 188) (.c (.fn (.func 125) [] [])) [(.t 187)],
              .op (some 189) (.bi .eql (.t 188) (.c (.i .i64 0))),
              .op none (.st (.t 4) 3 (.t 186)),
              .op (some 5) (.mv (.t 189))])
          .ret)))))
          .skip))))))))))
  (.seq (.ops [.op (some 190) (.ld (.t 4) 3 true),
      .op none (.st (.t 4) 3 (.t 190)),
      .op (some 5) (.mv (.c (.b false)))])
  .ret)))
theorem s106_ok : fnOk Go.Proofs.Try.prog Go.Proofs.Try.f106 ⟨191, [.c 4 3 true, .t 5], b106⟩ = true := by kernel_rfl
def terms_formed.J2 (self : Tm → (List Ty) → Option (Ty × Bool)) (x5 : Bool) (x1 : Tm) : Option (Ty × Bool) := some (x1.y, x5)
def terms_formed.J5 (self : Tm → (List Ty) → Option (Ty × Bool)) (x12 : Bool) (r8 : (Ty × Bool)) (e7 : Tm) (e9 : Tm) : Option (Ty × Bool) := (bif x12 then some ((Ty.mk false (⟨#[]⟩ : ByteArray) []), false) else (Option.bind (ixL r8.1.a 1) fun e13 => some (e13, true)))
def terms_formed.J6 (self : Tm → (List Ty) → Option (Ty × Bool)) (x2 : (List Ty)) (x1 : Tm) (x16 : Bool) : Option (Ty × Bool) := (bif x16 then some ((Ty.mk false (⟨#[]⟩ : ByteArray) []), false) else (Option.bind (ixL x1.s 0) fun e17 => (if List.length x2 + 1 ≤ LIM then (Option.bind (self e17 (x2 ++ [x1.y])) fun r18 => (bif (!r18.2) then some ((Ty.mk false (⟨#[]⟩ : ByteArray) []), false) else (Option.bind (types_Check (Ty.mk false (⟨#[102, 117, 110]⟩ : ByteArray) [x1.y, r18.1])) fun r19 => some ((Ty.mk false (⟨#[102, 117, 110]⟩ : ByteArray) [x1.y, r18.1]), (decide (r19 = 0)))))) else none)))
def terms_formed.body (self : Tm → (List Ty) → Option (Ty × Bool)) (x1 : Tm) (x2 : (List Ty)) : Option (Ty × Bool) := (bif ((decide (x1.k = 1)) || (decide (x1.k = 2))) then (bif (terms_plain x1 true true false) then (Option.bind (terms_named x1.n) fun r3 => (bif r3 then (bif (decide ((List.length x1.s : Int) = 0)) then (Option.bind (types_Check x1.y) fun r4 => (terms_formed.J2 self (decide (r4 = 0)) x1)) else (terms_formed.J2 self false x1)) else (terms_formed.J2 self false x1))) else (terms_formed.J2 self false x1)) else (bif (decide (x1.k = 3)) then (bif ((!(terms_plain x1 false false true)) || ((decide (0 < (List.length x1.s : Int))) || ((decide (x1.i < 0)) || (decide ((List.length x2 : Int) ≤ x1.i))))) then some ((Ty.mk false (⟨#[]⟩ : ByteArray) []), false) else (Option.bind (ixL x2 (IntKind.i64.wrap ((IntKind.i64.wrap ((List.length x2 : Int) - 1)) - x1.i))) fun e6 => some (e6, true))) else (bif (decide (x1.k = 4)) then (bif ((!(terms_plain x1 false false false)) || (!decide ((List.length x1.s : Int) = 2))) then some ((Ty.mk false (⟨#[]⟩ : ByteArray) []), false) else (Option.bind (ixL x1.s 0) fun e7 => (Option.bind (self e7 x2) fun r8 => (Option.bind (ixL x1.s 1) fun e9 => (Option.bind (self e9 x2) fun r10 => (bif (!r8.2) then (terms_formed.J5 self true r8 e7 e9) else (bif (!r10.2) then (terms_formed.J5 self true r8 e7 e9) else (bif r8.1.v then (terms_formed.J5 self true r8 e7 e9) else (bif (!decide (r8.1.n = (⟨#[102, 117, 110]⟩ : ByteArray))) then (terms_formed.J5 self true r8 e7 e9) else (bif (!decide ((List.length r8.1.a : Int) = 2)) then (terms_formed.J5 self true r8 e7 e9) else (Option.bind (ixL r8.1.a 0) fun e11 => (terms_formed.J5 self (!(types_Same e11 r10.1)) r8 e7 e9)))))))))))) else (bif (decide (x1.k = 5)) then (bif (!(terms_plain x1 true true false)) then (terms_formed.J6 self x2 x1 true) else (bif (!decide ((List.length x1.s : Int) = 1)) then (terms_formed.J6 self x2 x1 true) else (Option.bind (terms_named x1.n) fun r14 => (bif (!r14) then (terms_formed.J6 self x2 x1 true) else (Option.bind (types_Check x1.y) fun r15 => (terms_formed.J6 self x2 x1 (!decide (r15 = 0)))))))) else some ((Ty.mk false (⟨#[]⟩ : ByteArray) []), false)))))
theorem terms_formed.body_pc (self : Tm → (List Ty) → Option (Ty × Bool)) (x1 : Tm) (x2 : (List Ty)) (hself : ∀ a0 a1 r, self a0 a1 = some r → PC Go.Proofs.Try.prog 106 [.agg (tmC a0), .sl false 3 (List.map tyC a1)] (.tup [.agg (tyC r.1), .b r.2])) (r : Ty × Bool) (hF : terms_formed.body self x1 x2 = some r) : PC Go.Proofs.Try.prog 106 [.agg (tmC x1), .sl false 3 (List.map tyC x2)] (.tup [.agg (tyC r.1), .b r.2]) := by
  obtain ⟨z, hr⟩ : ∃ z, some r = some z := ⟨_, rfl⟩
  refine PC_z Go.Proofs.Try.func106 s106_ok (Nat.le_of_ble_eq_true rfl) fun hf => ?_
  unfold b106 start
  unfold terms_formed.body at hF
  try simp -dsimp only [go_sem]
  refine zcut_of (fun s => s = ⟨[(1, .sl false 3 (List.map tyC x2)), (2, .ip (tmC x1)), (4, .ptr 0 0), (13, .i .u8 x1.k), (14, .b ((decide (x1.k = 1)) || (decide (x1.k = 2))))], [.box 24 ([.b false, .s (⟨#[]⟩ : ByteArray), .nils])]⟩) ?_ ?_
  · skip
    try simp -dsimp only [go_sem]
    refine zif_of (fun h1 => ?_) (fun h1 => ?_)
    · skip
      try simp -dsimp only [go_sem, h1]
      exact ⟨_, (Wks.ok (by simp -dsimp only [go_sem, h1])), rfl⟩
    · skip
      try simp -dsimp only [go_sem, h1]
      exact ⟨_, (Wks.ok (by simp -dsimp only [go_sem, h1])), rfl⟩
  rintro _ rfl hfit
  try simp -dsimp only [go_sem]
  refine zif_of (fun h2 => ?_) (fun h2 => ?_)
  · skip
    replace hF := cond_t h2 hF
    try simp -dsimp only [go_sem, h2]
    refine zcut_of (fun s => ∃ (x5 : Bool), s = ⟨[(4, .ptr 0 0), (5, .b x5)], [.box 24 (tyC x1.y)]⟩ ∧ terms_formed.J2 self x5 x1 = some r) ?_ ?_
    · skip
      try simp -dsimp only [go_sem, h2]
      refine call_ok (terms_plain_pc x1 true true false ) (by simp -dsimp only [go_sem, h2]) ?_
      try simp -dsimp only [go_sem, h2]
      refine zif_of (fun h4 => ?_) (fun h4 => ?_)
      · skip
        replace hF := cond_t h4 hF
        obtain ⟨r3, h5, hF⟩ := bind_of hF hr
        try simp -dsimp only [go_sem, h2, h4]
        refine call_ok (terms_named_pc x1.n  _ h5) (by simp -dsimp only [go_sem, h2, h4]) ?_
        try simp -dsimp only [go_sem, h2, h4]
        refine zif_of (fun h6 => ?_) (fun h6 => ?_)
        · skip
          replace hF := cond_t h6 hF
          try simp -dsimp only [go_sem, h2, h4, h6]
          refine zif_of (fun h7 => ?_) (fun h7 => ?_)
          · skip
            replace hF := cond_t h7 hF
            obtain ⟨r4, h8, hF⟩ := bind_of hF hr
            try simp -dsimp only [go_sem, h2, h4, h6, h7]
            refine call_ok (types_Check_pc x1.y  _ h8) (by simp -dsimp only [go_sem, h2, h4, h6, h7]) ?_
            try simp -dsimp only [go_sem, h2, h4, h6, h7]
            exact ⟨_, (Wks.ok (by simp -dsimp only [go_sem, h2, h4, h6, h7])), (decide (r4 = 0)), rfl, hF⟩
          · skip
            replace hF := cond_f h7 hF
            try simp -dsimp only [go_sem, h2, h4, h6, h7]
            exact ⟨_, (Wks.ok (by simp -dsimp only [go_sem, h2, h4, h6, h7])), false, rfl, hF⟩
        · skip
          replace hF := cond_f h6 hF
          try simp -dsimp only [go_sem, h2, h4, h6]
          exact ⟨_, (Wks.ok (by simp -dsimp only [go_sem, h2, h4, h6])), false, rfl, hF⟩
      · skip
        replace hF := cond_f h4 hF
        try simp -dsimp only [go_sem, h2, h4]
        exact ⟨_, (Wks.ok (by simp -dsimp only [go_sem, h2, h4])), false, rfl, hF⟩
    clear hF
    rintro _ ⟨x5, rfl, hF⟩ hfit
    unfold terms_formed.J2 at hF
    cases hF
    simp -dsimp only [go_sem, h2]
  · skip
    replace hF := cond_f h2 hF
    try simp -dsimp only [go_sem, h2]
    refine zif_of (fun h9 => ?_) (fun h9 => ?_)
    · skip
      replace hF := cond_t h9 hF
      try simp -dsimp only [go_sem, h2, h9]
      refine zcut_of (fun s => s = ⟨[(1, .sl false 3 (List.map tyC x2)), (2, .ip (tmC x1)), (4, .ptr 0 0), (60, .b ((!(terms_plain x1 false false true)) || ((decide (0 < (List.length x1.s : Int))) || ((decide (x1.i < 0)) || (decide ((List.length x2 : Int) ≤ x1.i))))))], [.box 24 ([.b false, .s (⟨#[]⟩ : ByteArray), .nils])]⟩) ?_ ?_
      · skip
        try simp -dsimp only [go_sem, h2, h9]
        refine call_ok (terms_plain_pc x1 false false true ) (by simp -dsimp only [go_sem, h2, h9]) ?_
        try simp -dsimp only [go_sem, h2, h9]
        refine zif_of (fun h10 => ?_) (fun h10 => ?_)
        · skip
          try simp -dsimp only [go_sem, h2, h9, h10]
          exact ⟨_, (Wks.ok (by simp -dsimp only [go_sem, h2, h9, h10])), rfl⟩
        · skip
          try simp -dsimp only [go_sem, h2, h9, h10]
          refine zif_of (fun h11 => ?_) (fun h11 => ?_)
          · skip
            try simp -dsimp only [go_sem, h2, h9, h10, h11]
            exact ⟨_, (Wks.ok (by simp -dsimp only [go_sem, h2, h9, h10, h11])), rfl⟩
          · skip
            try simp -dsimp only [go_sem, h2, h9, h10, h11]
            refine zif_of (fun h12 => ?_) (fun h12 => ?_)
            · skip
              try simp -dsimp only [go_sem, h2, h9, h10, h11, h12]
              exact ⟨_, (Wks.ok (by simp -dsimp only [go_sem, h2, h9, h10, h11, h12])), rfl⟩
            · skip
              try simp -dsimp only [go_sem, h2, h9, h10, h11, h12]
              exact ⟨_, (Wks.ok (by simp -dsimp only [go_sem, h2, h9, h10, h11, h12])), rfl⟩
      rintro _ rfl hfit
      try simp -dsimp only [go_sem, h2, h9]
      refine zif_of (fun h13 => ?_) (fun h13 => ?_)
      · skip
        replace hF := cond_t h13 hF
        cases hF
        simp -dsimp only [go_sem, h2, h9, h13]
      · skip
        replace hF := cond_f h13 hF
        obtain ⟨e6, h14, hF⟩ := bind_of hF hr
        obtain ⟨h15, h14⟩ := ixL_of h14
        cases hF
        simp -dsimp only [go_sem, h2, h9, h13, h15, h14]
    · skip
      replace hF := cond_f h9 hF
      try simp -dsimp only [go_sem, h2, h9]
      refine zif_of (fun h16 => ?_) (fun h16 => ?_)
      · skip
        replace hF := cond_t h16 hF
        try simp -dsimp only [go_sem, h2, h9, h16]
        refine zcut_of (fun s => s = ⟨[(1, .sl false 3 (List.map tyC x2)), (2, .ip (tmC x1)), (4, .ptr 0 0), (81, .b ((!(terms_plain x1 false false false)) || (!decide ((List.length x1.s : Int) = 2))))], [.box 24 ([.b false, .s (⟨#[]⟩ : ByteArray), .nils])]⟩) ?_ ?_
        · skip
          try simp -dsimp only [go_sem, h2, h9, h16]
          refine call_ok (terms_plain_pc x1 false false false ) (by simp -dsimp only [go_sem, h2, h9, h16]) ?_
          try simp -dsimp only [go_sem, h2, h9, h16]
          refine zif_of (fun h17 => ?_) (fun h17 => ?_)
          · skip
            try simp -dsimp only [go_sem, h2, h9, h16, h17]
            exact ⟨_, (Wks.ok (by simp -dsimp only [go_sem, h2, h9, h16, h17])), rfl⟩
          · skip
            try simp -dsimp only [go_sem, h2, h9, h16, h17]
            exact ⟨_, (Wks.ok (by simp -dsimp only [go_sem, h2, h9, h16, h17])), rfl⟩
        rintro _ rfl hfit
        try simp -dsimp only [go_sem, h2, h9, h16]
        refine zif_of (fun h18 => ?_) (fun h18 => ?_)
        · skip
          replace hF := cond_t h18 hF
          cases hF
          simp -dsimp only [go_sem, h2, h9, h16, h18]
        · skip
          replace hF := cond_f h18 hF
          obtain ⟨e7, h19, hF⟩ := bind_of hF hr
          obtain ⟨h20, h19⟩ := ixL_of h19
          simp only [Int.reduceToNat] at h19
          obtain ⟨r8, h21, hF⟩ := bind_of hF hr
          try simp -dsimp only [go_sem, h2, h9, h16, h18, h19]
          refine call_ok (hself e7 x2  _ h21) (by simp -dsimp only [go_sem, h2, h9, h16, h18, h19]) ?_
          obtain ⟨e9, h22, hF⟩ := bind_of hF hr
          obtain ⟨h23, h22⟩ := ixL_of h22
          simp only [Int.reduceToNat] at h22
          obtain ⟨r10, h24, hF⟩ := bind_of hF hr
          try simp -dsimp only [go_sem, h2, h9, h16, h18, h19, h22]
          refine call_ok (hself e9 x2  _ h24) (by simp -dsimp only [go_sem, h2, h9, h16, h18, h19, h22]) ?_
          try simp -dsimp only [go_sem, h2, h9, h16, h18, h19, h22]
          refine zcut_of (fun s => ∃ (x12 : Bool), s = ⟨[(4, .ptr 0 0), (6, .ptr 1 0), (130, .b x12)], [.box 24 ([.b false, .s (⟨#[]⟩ : ByteArray), .nils]), .box 24 (tyC r8.1)]⟩ ∧ terms_formed.J5 self x12 r8 e7 e9 = some r) ?_ ?_
          · skip
            try simp -dsimp only [go_sem, h2, h9, h16, h18, h19, h22]
            refine zif_of (fun h26 => ?_) (fun h26 => ?_)
            · skip
              replace hF := cond_t h26 hF
              try simp -dsimp only [go_sem, h2, h9, h16, h18, h19, h22, h26]
              exact ⟨_, (Wks.ok (by simp -dsimp only [go_sem, h2, h9, h16, h18, h19, h22, h26])), true, rfl, hF⟩
            · skip
              replace hF := cond_f h26 hF
              try simp -dsimp only [go_sem, h2, h9, h16, h18, h19, h22, h26]
              refine zif_of (fun h27 => ?_) (fun h27 => ?_)
              · skip
                replace hF := cond_t h27 hF
                try simp -dsimp only [go_sem, h2, h9, h16, h18, h19, h22, h26, h27]
                exact ⟨_, (Wks.ok (by simp -dsimp only [go_sem, h2, h9, h16, h18, h19, h22, h26, h27])), true, rfl, hF⟩
              · skip
                replace hF := cond_f h27 hF
                try simp -dsimp only [go_sem, h2, h9, h16, h18, h19, h22, h26, h27]
                refine zif_of (fun h28 => ?_) (fun h28 => ?_)
                · skip
                  replace hF := cond_t h28 hF
                  try simp -dsimp only [go_sem, h2, h9, h16, h18, h19, h22, h26, h27, h28]
                  exact ⟨_, (Wks.ok (by simp -dsimp only [go_sem, h2, h9, h16, h18, h19, h22, h26, h27, h28])), true, rfl, hF⟩
                · skip
                  replace hF := cond_f h28 hF
                  try simp -dsimp only [go_sem, h2, h9, h16, h18, h19, h22, h26, h27, h28]
                  refine zif_of (fun h29 => ?_) (fun h29 => ?_)
                  · skip
                    replace hF := cond_t h29 hF
                    try simp -dsimp only [go_sem, h2, h9, h16, h18, h19, h22, h26, h27, h28, h29]
                    exact ⟨_, (Wks.ok (by simp -dsimp only [go_sem, h2, h9, h16, h18, h19, h22, h26, h27, h28, h29])), true, rfl, hF⟩
                  · skip
                    replace hF := cond_f h29 hF
                    try simp -dsimp only [go_sem, h2, h9, h16, h18, h19, h22, h26, h27, h28, h29]
                    refine zif_of (fun h30 => ?_) (fun h30 => ?_)
                    · skip
                      replace hF := cond_t h30 hF
                      try simp -dsimp only [go_sem, h2, h9, h16, h18, h19, h22, h26, h27, h28, h29, h30]
                      exact ⟨_, (Wks.ok (by simp -dsimp only [go_sem, h2, h9, h16, h18, h19, h22, h26, h27, h28, h29, h30])), true, rfl, hF⟩
                    · skip
                      replace hF := cond_f h30 hF
                      obtain ⟨e11, h31, hF⟩ := bind_of hF hr
                      obtain ⟨h32, h31⟩ := ixL_of h31
                      simp only [Int.reduceToNat] at h31
                      try simp -dsimp only [go_sem, h2, h9, h16, h18, h19, h22, h26, h27, h28, h29, h30, h31]
                      refine call_ok (types_Same_pc e11 r10.1 ) (by simp -dsimp only [go_sem, h2, h9, h16, h18, h19, h22, h26, h27, h28, h29, h30, h31]) ?_
                      try simp -dsimp only [go_sem, h2, h9, h16, h18, h19, h22, h26, h27, h28, h29, h30, h31]
                      exact ⟨_, (Wks.ok (by simp -dsimp only [go_sem, h2, h9, h16, h18, h19, h22, h26, h27, h28, h29, h30, h31])), (!(types_Same e11 r10.1)), rfl, hF⟩
          clear hF
          rintro _ ⟨x12, rfl, hF⟩ hfit
          unfold terms_formed.J5 at hF
          try simp -dsimp only [go_sem, h2, h9, h16, h18, h19, h22]
          refine zif_of (fun h33 => ?_) (fun h33 => ?_)
          · skip
            replace hF := cond_t h33 hF
            cases hF
            simp -dsimp only [go_sem, h2, h9, h16, h18, h19, h22, h33]
          · skip
            replace hF := cond_f h33 hF
            obtain ⟨e13, h34, hF⟩ := bind_of hF hr
            obtain ⟨h35, h34⟩ := ixL_of h34
            simp only [Int.reduceToNat] at h34
            cases hF
            simp -dsimp only [go_sem, h2, h9, h16, h18, h19, h22, h33, h34]
      · skip
        replace hF := cond_f h16 hF
        try simp -dsimp only [go_sem, h2, h9, h16]
        refine zif_of (fun h36 => ?_) (fun h36 => ?_)
        · skip
          replace hF := cond_t h36 hF
          try simp -dsimp only [go_sem, h2, h9, h16, h36]
          refine zcut_of (fun s => ∃ (x16 : Bool), s = ⟨[(1, .sl false 3 (List.map tyC x2)), (2, .ip (tmC x1)), (4, .ptr 0 0), (158, .b x16)], [.box 24 ([.b false, .s (⟨#[]⟩ : ByteArray), .nils])]⟩ ∧ terms_formed.J6 self x2 x1 x16 = some r) ?_ ?_
          · skip
            try simp -dsimp only [go_sem, h2, h9, h16, h36]
            refine call_ok (terms_plain_pc x1 true true false ) (by simp -dsimp only [go_sem, h2, h9, h16, h36]) ?_
            try simp -dsimp only [go_sem, h2, h9, h16, h36]
            refine zif_of (fun h38 => ?_) (fun h38 => ?_)
            · skip
              replace hF := cond_t h38 hF
              try simp -dsimp only [go_sem, h2, h9, h16, h36, h38]
              exact ⟨_, (Wks.ok (by simp -dsimp only [go_sem, h2, h9, h16, h36, h38])), true, rfl, hF⟩
            · skip
              replace hF := cond_f h38 hF
              try simp -dsimp only [go_sem, h2, h9, h16, h36, h38]
              refine zif_of (fun h39 => ?_) (fun h39 => ?_)
              · skip
                replace hF := cond_t h39 hF
                try simp -dsimp only [go_sem, h2, h9, h16, h36, h38, h39]
                exact ⟨_, (Wks.ok (by simp -dsimp only [go_sem, h2, h9, h16, h36, h38, h39])), true, rfl, hF⟩
              · skip
                replace hF := cond_f h39 hF
                obtain ⟨r14, h40, hF⟩ := bind_of hF hr
                try simp -dsimp only [go_sem, h2, h9, h16, h36, h38, h39]
                refine call_ok (terms_named_pc x1.n  _ h40) (by simp -dsimp only [go_sem, h2, h9, h16, h36, h38, h39]) ?_
                try simp -dsimp only [go_sem, h2, h9, h16, h36, h38, h39]
                refine zif_of (fun h41 => ?_) (fun h41 => ?_)
                · skip
                  replace hF := cond_t h41 hF
                  try simp -dsimp only [go_sem, h2, h9, h16, h36, h38, h39, h41]
                  exact ⟨_, (Wks.ok (by simp -dsimp only [go_sem, h2, h9, h16, h36, h38, h39, h41])), true, rfl, hF⟩
                · skip
                  replace hF := cond_f h41 hF
                  obtain ⟨r15, h42, hF⟩ := bind_of hF hr
                  try simp -dsimp only [go_sem, h2, h9, h16, h36, h38, h39, h41]
                  refine call_ok (types_Check_pc x1.y  _ h42) (by simp -dsimp only [go_sem, h2, h9, h16, h36, h38, h39, h41]) ?_
                  try simp -dsimp only [go_sem, h2, h9, h16, h36, h38, h39, h41]
                  exact ⟨_, (Wks.ok (by simp -dsimp only [go_sem, h2, h9, h16, h36, h38, h39, h41])), (!decide (r15 = 0)), rfl, hF⟩
          clear hF
          rintro _ ⟨x16, rfl, hF⟩ hfit
          unfold terms_formed.J6 at hF
          try simp -dsimp only [go_sem, h2, h9, h16, h36]
          refine zif_of (fun h43 => ?_) (fun h43 => ?_)
          · skip
            replace hF := cond_t h43 hF
            cases hF
            simp -dsimp only [go_sem, h2, h9, h16, h36, h43]
          · skip
            replace hF := cond_f h43 hF
            obtain ⟨e17, h44, hF⟩ := bind_of hF hr
            obtain ⟨h45, h44⟩ := ixL_of h44
            simp only [Int.reduceToNat] at h44
            obtain ⟨h46, hF⟩ := ite_of hF hr
            have h46t := eq_true h46
            obtain ⟨r18, h47, hF⟩ := bind_of hF hr
            try simp -dsimp only [go_sem, h2, h9, h16, h36, h43, h44, h46t]
            refine call_ok (hself e17 (x2 ++ [x1.y])  _ h47) (by simp -dsimp only [go_sem, h2, h9, h16, h36, h43, h44, h46t]) ?_
            try simp -dsimp only [go_sem, h2, h9, h16, h36, h43, h44, h46t]
            refine zif_of (fun h48 => ?_) (fun h48 => ?_)
            · skip
              replace hF := cond_t h48 hF
              cases hF
              simp -dsimp only [go_sem, h2, h9, h16, h36, h43, h44, h46t, h48]
            · skip
              replace hF := cond_f h48 hF
              obtain ⟨r19, h49, hF⟩ := bind_of hF hr
              try simp -dsimp only [go_sem, h2, h9, h16, h36, h43, h44, h46t, h48]
              refine call_ok (types_Check_pc (Ty.mk false (⟨#[102, 117, 110]⟩ : ByteArray) [x1.y, r18.1])  _ h49) (by simp -dsimp only [go_sem, h2, h9, h16, h36, h43, h44, h46t, h48]) ?_
              cases hF
              simp -dsimp only [go_sem, h2, h9, h16, h36, h43, h44, h46t, h48]
        · skip
          replace hF := cond_f h36 hF
          cases hF
          simp -dsimp only [go_sem, h2, h9, h16, h36]
def terms_formed.fu : Nat → Tm → (List Ty) → Option (Ty × Bool)
  | 0 => fun _ _ => none
  | n + 1 => terms_formed.body (terms_formed.fu n)
theorem terms_formed.fu_pc : ∀ (n : Nat) (a0 : Tm) (a1 : (List Ty)) (r : Ty × Bool), terms_formed.fu n a0 a1 = some r → PC Go.Proofs.Try.prog 106 [.agg (tmC a0), .sl false 3 (List.map tyC a1)] (.tup [.agg (tyC r.1), .b r.2])
  | 0, a0, a1, r, h => by cases h
  | n + 1, a0, a1, r, h => terms_formed.body_pc (terms_formed.fu n) a0 a1 (terms_formed.fu_pc n) r h
/-- What the code's answer has to do with the type. -/
def fmRel (o : Option (Ty × Bool)) (v : Option Ty) : Prop := ∃ u, o = some (u, v.isSome) ∧ ∀ w, v = some w → u = w
theorem fmRel_none (u : Ty) : fmRel (some (u, false)) none := ⟨u, rfl, fun _ h => by cases h⟩
theorem fmRel_some (u : Ty) : fmRel (some (u, true)) (some u) := ⟨u, rfl, fun _ h => by cases h; rfl⟩
theorem fmRel_at {o : Option (Ty × Bool)} {v : Option Ty} (h : fmRel o v) : (v = none ∧ ∃ u, o = some (u, false)) ∨ (∃ u, v = some u ∧ o = some (u, true)) := by
  obtain ⟨u, h1, h2⟩ := h
  cases v with
  | none => exact .inl ⟨rfl, u, h1⟩
  | some w => obtain rfl := h2 w rfl; exact .inr ⟨u, rfl, h1⟩
/-- The bulk of the type of a term. -/
def bkL : List Ty → Nat
  | [] => 0
  | t :: l => bkY t + bkL l
theorem bkL_get : ∀ {l : List Ty} {i : Nat} {x : Ty}, l[i]? = some x → bkY x ≤ bkL l
  | t :: l, 0, x, h => by simp at h; subst h; simp only [bkL]; omega
  | t :: l, i + 1, x, h => by have := bkL_get (l := l) (i := i) (by simpa using h); simp only [bkL]; omega
theorem fm_bk : ∀ (n : Nat) (t : Tm) (l : List Ty) (u : Ty), dpT t ≤ n → fm t l = some u → bkY u ≤ bkT t * 6 + bkL l
  | 0, t, l, u, hn, h => by have := dpT_eq t; omega
  | n + 1, t, l, u, hn, h => by
    have hb := bkT_eq t
    have hsub : ∀ x ∈ t.s, dpT x ≤ n := fun x hx => by have := dpT_sub hx; omega
    rw [fm_eq] at h
    split at h
    · split at h
      · cases h; omega
      · cases h
    split at h
    · split at h
      · have := bkL_get h; omega
      · cases h
    split at h
    · split at h
      · split at h
        · rename_i f x hs
          obtain ⟨a, ha, h⟩ := Option.bind_eq_some_iff.1 h
          obtain ⟨b, hb', h⟩ := Option.bind_eq_some_iff.1 h
          have h1 := fm_bk n f l a (hsub f (by rw [hs]; simp)) ha
          have h2 : bkT f ≤ bkTs t.s := bkTs_mem (by rw [hs]; simp)
          unfold apY at h
          split at h
          · cases h
          · split at h
            · rename_i p q hpq
              split at h
              · cases h
                have h3 := bkY_eq a
                rw [hpq] at h3
                simp only [bkYs] at h3
                omega
              · cases h
            · cases h
        · cases h
      · cases h
    split at h
    · split at h
      · split at h
        · rename_i b hs
          obtain ⟨a, ha, h⟩ := Option.bind_eq_some_iff.1 h
          have h1 := fm_bk n b (t.y :: l) a (hsub b (by rw [hs]; simp)) ha
          have h2 : bkT b ≤ bkTs t.s := bkTs_mem (by rw [hs]; simp)
          split at h
          · cases h
            simp only [funY, bkY, bkYs, bkL] at h1 ⊢
            have : (ByteArray.size ⟨#[102, 117, 110]⟩) = 3 := rfl
            omega
          · cases h
        · cases h
      · cases h
    · cases h
theorem hbl' (y : Ty) : ∀ l : List Ty, bkL (l ++ [y]) = bkL l + bkY y
  | [] => by simp [bkL]
  | x :: l => by simp only [List.cons_append, bkL, hbl' y l]; omega
theorem fm_ok : ∀ (n : Nat) (t : Tm) (o : List Ty), dpT t ≤ n → bkT t * 6 + bkL o ≤ 2 ^ 38 → o.length + dpT t ≤ 2 ^ 30 → fmRel (terms_formed.fu n t o) (fm t o.reverse)
  | 0, t, o, hn, _, _ => by have := dpT_eq t; omega
  | n + 1, t, o, hn, hb, hl => by
    have hbe := bkT_eq t
    have hde := dpT_eq t
    have hsub : ∀ x ∈ t.s, dpT x ≤ n := fun x hx => by have := dpT_sub hx; omega
    have hbY := bkY_eq t.y
    have ih : ∀ x ∈ t.s, fmRel (terms_formed.fu n x o) (fm x o.reverse) := fun x hx => by
      have := bkT_sub hx; have := dpT_sub hx
      exact fm_ok n x o (hsub x hx) (by omega) (by omega)
    rw [fm_eq]
    show fmRel (terms_formed.body (terms_formed.fu n) t o) _
    unfold terms_formed.body terms_formed.J2 terms_formed.J5 terms_formed.J6
    simp only [plain_tt, plain_ff, terms_named_eq t.n (by omega), types_Check_eq t.y (by omega), Option.bind_some]
    by_cases h1 : t.k = 1 ∨ t.k = 2
    · have h1' : (decide (t.k = 1) || decide (t.k = 2)) = true := by simpa using h1
      rw [if_pos h1, h1', cond_true]
      by_cases hc : nameT t.n = true ∧ validY t.y = true ∧ t.i = 0 ∧ t.s.length = 0
      · rw [if_pos hc]
        obtain ⟨c1, c2, c3, c4⟩ := hc
        simp only [c1, c2, c3, c4, decide_true, cond_true, if_true, Int.natCast_zero]
        exact fmRel_some _
      · rw [if_neg hc]
        have e0 : ((t.s.length : Int) = 0) ↔ t.s.length = 0 := by omega
        have : ∀ z : Option (Ty × Bool), z = some (t.y, false) → fmRel z none := fun z hz => hz ▸ fmRel_none _
        apply this
        simp only [e0, Bool.cond_eq_ite]
        cases h2 : nameT t.n <;> cases h3 : validY t.y <;> by_cases h4 : t.i = 0 <;> by_cases h5 : t.s.length = 0 <;> simp_all
    have h1' : (decide (t.k = 1) || decide (t.k = 2)) = false := by simpa using h1
    rw [if_neg h1, h1', cond_false]
    by_cases h3 : t.k = 3
    · rw [if_pos h3, decide_eq_true h3, cond_true]
      by_cases hc : t.n = ⟨#[]⟩ ∧ noneY t.y = true ∧ t.s.length = 0 ∧ 0 ≤ t.i
      · rw [if_pos hc]
        obtain ⟨c1, c2, c3, c4⟩ := hc
        by_cases c5 : (o.length : Int) ≤ t.i
        · have e : o.reverse[t.i.toNat]? = none := List.getElem?_eq_none (by simp; omega)
          rw [e]
          simp only [c5, decide_true, Bool.or_true, cond_true]
          exact fmRel_none _
        · have c4' : ¬ t.i < 0 := by omega
          have e : o.reverse[t.i.toNat]? = o[o.length - 1 - t.i.toNat]? := by rw [List.getElem?_reverse (by omega)]
          obtain ⟨u, hu⟩ : ∃ u, o[o.length - 1 - t.i.toNat]? = some u := ⟨_, List.getElem?_eq_getElem (by omega)⟩
          have ei : (o.length : Int) - 1 - t.i = ((o.length - 1 - t.i.toNat : Nat) : Int) := by omega
          rw [e, hu]
          simp only [c1, c2, c3, c5, c4', decide_true, decide_false, Bool.or_false, Bool.and_self, Bool.true_or, Bool.not_true, Int.natCast_zero, Int.lt_irrefl, cond_false]
          rw [wr64 (n := (o.length : Int) - 1) (by omega) (by omega), wr64 (by omega) (by omega), ei, ixL_nat, hu]
          exact fmRel_some _
      · rw [if_neg hc]
        have : (!(decide (t.n = ⟨#[]⟩) && (noneY t.y && (true || decide (t.i = 0)))) || (decide (0 < (t.s.length : Int)) || (decide (t.i < 0) || decide ((o.length : Int) ≤ t.i)))) = true := by
          have e0 : (0 < (t.s.length : Int)) ↔ ¬ t.s.length = 0 := by omega
          have e1 : (t.i < 0) ↔ ¬ 0 ≤ t.i := by omega
          simp only [e0, e1]
          cases h2 : noneY t.y <;> by_cases h4 : t.n = ⟨#[]⟩ <;> by_cases h5 : t.s.length = 0 <;> by_cases h6 : 0 ≤ t.i <;> simp_all
        rw [this, cond_true]
        exact fmRel_none _
    rw [if_neg h3, decide_eq_false h3, cond_false]
    by_cases h4 : t.k = 4
    · rw [if_pos h4, decide_eq_true h4, cond_true]
      by_cases hc : t.n = ⟨#[]⟩ ∧ noneY t.y = true ∧ t.i = 0
      · rw [if_pos hc]
        obtain ⟨c1, c2, c3⟩ := hc
        simp only [c1, c2, c3, decide_true, Bool.and_self, Bool.or_true, Bool.not_true, Bool.false_or]
        by_cases c4 : t.s.length = 2
        · obtain ⟨f, x, hs⟩ : ∃ f x, t.s = [f, x] := by
            match t.s, c4 with
            | [f, x], _ => exact ⟨f, x, rfl⟩
          have e2 : ((t.s.length : Int) = 2) := by omega
          simp only [e2, decide_true, Bool.not_true, cond_false]
          rw [hs]
          have i0 : ixL [f, x] 0 = some f := rfl
          have i1 : ixL [f, x] 1 = some x := rfl
          rw [i0, i1]
          simp only [Option.bind_some]
          have kf := fmRel_at (ih f (by rw [hs]; simp))
          have kx := fmRel_at (ih x (by rw [hs]; simp))
          rcases kf with ⟨hf, u, hfo⟩ | ⟨u, hf, hfo⟩
          · rw [hfo, hf]
            rcases kx with ⟨hx, v, hxo⟩ | ⟨v, hx, hxo⟩ <;> rw [hxo] <;> exact fmRel_none _
          · rcases kx with ⟨hx, v, hxo⟩ | ⟨v, hx, hxo⟩
            · rw [hfo, hf, hxo, hx]; exact fmRel_none _
            · rw [hfo, hf, hxo, hx]
              simp only [Option.bind_some, Bool.not_true, cond_false, apY]
              cases hv : u.v
              · by_cases hn : u.n = ⟨#[102, 117, 110]⟩
                · by_cases ha : u.a.length = 2
                  · obtain ⟨p, q, hpq⟩ : ∃ p q, u.a = [p, q] := by
                      match u.a, ha with
                      | [p, q], _ => exact ⟨p, q, rfl⟩
                    have e3 : ((u.a.length : Int) = 2) := by omega
                    have j0 : ixL [p, q] 0 = some p := rfl
                    have j1 : ixL [p, q] 1 = some q := rfl
                    simp only [hn, e3, hpq, j0, j1, types_Same, Option.bind_some, decide_true, Bool.not_true, cond_false, Bool.false_eq_true, ne_eq, not_true, or_self, if_false]
                    by_cases hcm : cmpTy p v = 0
                    · simp only [hcm, decide_true, Bool.not_true, cond_false, if_true]; exact fmRel_some _
                    · simp only [hcm, decide_false, Bool.not_false, cond_true, if_false]; exact fmRel_none _
                  · have e3 : ¬ ((u.a.length : Int) = 2) := by omega
                    simp only [hn, e3, decide_true, decide_false, Bool.not_true, Bool.not_false, cond_true, cond_false, Bool.false_eq_true, ne_eq, not_true, or_self, if_false]
                    split
                    · rename_i hh; rw [hh] at ha; exact absurd rfl ha
                    · exact fmRel_none _
                · simp only [hn, decide_false, Bool.not_false, cond_true, cond_false, ne_eq, not_false_eq_true, or_true, if_true]; exact fmRel_none _
              · simp only [cond_true, true_or, if_true]; exact fmRel_none _
        · have e2 : ¬ ((t.s.length : Int) = 2) := by omega
          simp only [e2, decide_false, Bool.not_false, cond_true]
          split
          · rename_i hh; rw [hh] at c4; exact absurd rfl c4
          · exact fmRel_none _
      · rw [if_neg hc]
        have : (!(decide (t.n = ⟨#[]⟩) && (noneY t.y && (false || decide (t.i = 0)))) || !decide ((t.s.length : Int) = 2)) = true := by
          cases h2 : noneY t.y <;> by_cases h4 : t.n = ⟨#[]⟩ <;> by_cases h6 : t.i = 0 <;> simp_all
        rw [this, cond_true]
        exact fmRel_none _
    rw [if_neg h4, decide_eq_false h4, cond_false]
    by_cases h5 : t.k = 5
    · rw [if_pos h5, decide_eq_true h5, cond_true]
      by_cases hc : nameT t.n = true ∧ validY t.y = true ∧ t.i = 0
      · rw [if_pos hc]
        obtain ⟨c1, c2, c3⟩ := hc
        simp only [c1, c2, c3, decide_true, if_true, Bool.not_true, cond_false, Option.bind_some]
        by_cases c4 : t.s.length = 1
        · obtain ⟨b, hs⟩ : ∃ b, t.s = [b] := by
            match t.s, c4 with
            | [b], _ => exact ⟨b, rfl⟩
          have e2 : ((t.s.length : Int) = 1) := by omega
          have i0 : ixL [b] 0 = some b := rfl
          have hmem : b ∈ t.s := by rw [hs]; simp
          have hb1 := bkT_sub hmem
          have hd1 := dpT_sub hmem
          have hbs := bkTs_mem hmem
          have hbl : ∀ l : List Ty, bkL (l ++ [t.y]) = bkL l + bkY t.y := by
            intro l
            induction l with
            | nil => simp [bkL]
            | cons x l ih => simp only [List.cons_append, bkL, ih]; omega
          have kb := fmRel_at (fm_ok n b (o ++ [t.y]) (hsub b hmem) (by rw [hbl]; omega) (by simp; omega))
          have elim : o.length + 1 ≤ LIM := by simp only [LIM]; omega
          simp only [e2, decide_true, Bool.not_true, cond_false, hs, i0, Option.bind_some, elim, if_true]
          rw [List.reverse_append] at kb
          simp only [List.reverse_cons, List.reverse_nil, List.nil_append, List.cons_append] at kb
          rcases kb with ⟨hf, u, hfo⟩ | ⟨u, hf, hfo⟩
          · rw [hfo, hf]; exact fmRel_none _
          · rw [hfo, hf]
            have hub := fm_bk (dpT b) b (t.y :: o.reverse) u (Nat.le_refl _) hf
            have hrev : ∀ l : List Ty, bkL l.reverse = bkL l := by
              intro l
              induction l with
              | nil => rfl
              | cons x l ih => rw [List.reverse_cons, hbl', ih]; simp only [bkL]; omega
            simp only [bkL, hrev] at hub
            have e3 : bkY (Ty.mk false ⟨#[102, 117, 110]⟩ [t.y, u]) ≤ 2 ^ 40 := by
              simp only [bkY, bkYs]
              have : (ByteArray.size ⟨#[102, 117, 110]⟩) = 3 := rfl
              omega
            simp only [Option.bind_some, Bool.not_true, cond_false, types_Check_eq _ e3]
            have e4 : Ty.mk false ⟨#[102, 117, 110]⟩ [t.y, u] = funY t.y u := rfl
            rw [e4]
            cases hv : validY (funY t.y u)
            · simp only [Bool.false_eq_true, if_false]; exact fmRel_none _
            · simp only [if_true, decide_true]; exact fmRel_some _
        · have e2 : ¬ ((t.s.length : Int) = 1) := by omega
          simp only [e2, decide_false, Bool.not_false, cond_true]
          split
          · rename_i hh; rw [hh] at c4; exact absurd rfl c4
          · exact fmRel_none _
      · rw [if_neg hc]
        have : ∀ z : Option (Ty × Bool), z = some (Ty.mk false ⟨#[]⟩ [], false) → fmRel z none := fun z hz => hz ▸ fmRel_none _
        apply this
        simp only [Bool.cond_eq_ite]
        cases h2 : nameT t.n <;> cases h3 : validY t.y <;> by_cases h4 : t.i = 0 <;> by_cases h5 : (t.s.length : Int) = 1 <;> simp_all
    · rw [if_neg h5, decide_eq_false h5, cond_false]
      exact fmRel_none _

end
end Go.Ab.Q
