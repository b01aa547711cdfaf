/- A part of the proof: Q7. -/
import Derived.Test.YtjfjcmfncgfhoaaAbY
import Derived.Test.YtjfjcmfncgfhoaaProg
import Derived.KernelRfl
import Derived.Test.YtjfjcmfncgfhoaaQ1
import Derived.Test.YtjfjcmfncgfhoaaQ2
import Derived.Test.YtjfjcmfncgfhoaaQ3
import Derived.Test.YtjfjcmfncgfhoaaQ4
import Derived.Test.YtjfjcmfncgfhoaaQ5
import Derived.Test.YtjfjcmfncgfhoaaQ6
set_option linter.all false
set_option maxRecDepth 100000
set_option maxHeartbeats 4000000
set_option linter.unusedSimpArgs false
set_option linter.unusedVariables false
namespace Go.Ab.Q
open Go.RowKit
noncomputable section

/-- sequent/terms.Twin -/
def bo52 : SCode :=
  (.seq (.ops [.op (some 1) (.bxm 27 (.t 0)),
      .op (some 2) (.alm 27 zTm)])
  (.seq (.ops [.op (some 6) (.fa (.t 1) 6),
      .op (some 7) (.ld (.t 6) 1 false),
      .op (some 3) (.mv (.t 7))])
  (.seq (.ops [.op (some 8) (.fa (.t 1) 2),
      .op (some 9) (.ld (.t 8) 3 true),
      .call (some 10) (.c (.fn (.func 81) [] [])) [(.t 9)],
      .op (some 11) (.fa (.t 1) 2),
      .op none (.st (.t 11) 3 (.t 10)),
      .op (some 12) (.fa (.t 1) 6),
      .op none (.st (.t 12) 1 (.c (.nils)))])
  (cutS (.seq (.ops [.op (some 13) (.mv (.t 3)),
      .op (some 14) (.len (.t 13)),
      .op (some 15) (.bi .gtr (.t 14) (.c (.i .i64 0)))])
  (.cond (.t 15) (.ops [.op (some 16) (.mv (.t 3)),
        .op (some 17) (.len (.t 16)),
        .op (some 18) (.mks 27 7 zTm (.t 17)),
        .op (some 19) (.fa (.t 1) 6),
        .op none (.st (.t 19) 1 (.t 18))])
    .skip))
  (.seq (.seq (.ops [.op (some 20) (.mv (.t 3)),
      .op (some 21) (.len (.t 20)),
      .op (some 22) (.mv (.c (.i .i64 0)))])
  (.block 0 (.loop (.seq (.ops [.op (some 23) (.bi .lss (.t 22) (.t 21))])
  (.seq (.cond (.t 23) .skip
    (.exit 0))
  (.seq (.block 1 (.seq (.ops [.op (some 24) (.mv (.t 22)),
      .op (some 25) (.ia 7 (.t 20) (.t 22)),
      .op (some 26) (.ld (.t 25) 7 true),
      .op (some 5) (.alm 27 zTm),
      .op (some 4) (.mv (.t 24)),
      .op none (.st (.t 5) 7 (.t 26))])
  (.draw [.op (some 27) (.fa (.t 1) 6),
      .op (some 28) (.ld (.t 27) 1 false),
      .op (some 29) (.mv (.t 4)),
      .op (some 30) (.ld (.t 5) 7 true),
      .call (some 31) (.c (.fn (.func 52) [] [])) [(.t 30)],
      .op (some 32) (.ia 7 (.t 28) (.t 29)),
      .op none (.st (.t 32) 7 (.t 31))])))
  (.ops [.op (some 33) (.bi .add (.t 22) (.c (.i .i64 1))),
      .op (some 22) (.mv (.t 33))])))))))
  (.seq (.ops [.op (some 34) (.ld (.t 1) 7 true),
      .op none (.st (.t 2) 7 (.t 34))])
  .ret))))))
theorem so52_ok : fnOk Go.Proofs.Try.prog Go.Proofs.Try.f52 ⟨35, [.c 2 7 true], bo52⟩ = true := by kernel_rfl
def terms_TwinO.L2 (t1 : Tm) : List Tm → Nat → (List Tm) → Option (Tm)
  | [], x5, ls4 => some (Tm.mk t1.k t1.n t1.y t1.i ls4)
  | e6 :: rest, x5, ls4 => (if 0 ≤ (x5 : Int) ∧ (x5 : Int) < List.length ls4 then ((terms_TwinO.L2 t1 rest) (x5 + 1) (List.set ls4 x5 e6)) else none)
def terms_TwinO.J1 (t1 : Tm) (ls2 : (List Tm)) : Option (Tm) := (terms_TwinO.L2 t1 t1.s 0 ls2)
def terms_TwinO (t1 : Tm) : Option (Tm) := (bif (decide (0 < (List.length t1.s : Int))) then (if (List.length t1.s) ≤ LIM then (terms_TwinO.J1 t1 (List.replicate (List.length t1.s) (Tm.mk 0 (⟨#[]⟩ : ByteArray) (Ty.mk false (⟨#[]⟩ : ByteArray) []) 0 []))) else none) else (terms_TwinO.J1 t1 []))
theorem terms_TwinO_own (t1 : Tm) (r : Tm) (hF : terms_TwinO t1 = some r) : PR Go.Proofs.Try.prog 52 [.agg (tmC t1)] [.row 27 7 (List.map tmC r.s)] (.agg [.i .u8 r.k, .s r.n, .b r.y.v, .s r.y.n, .sl false 3 (List.map tyC r.y.a), .i .i64 r.i, .row 0]) := by
  obtain ⟨z, hr⟩ : ∃ z, some r = some z := ⟨_, rfl⟩
  refine PR_z Go.Proofs.Try.func52 so52_ok (Nat.le_of_ble_eq_true rfl) fun hf => ?_
  unfold bo52 start
  unfold terms_TwinO at hF
  try simp -dsimp (maxDischargeDepth := 6) only [go_sem]
  refine call_ok (twinY_pc t1.y) (by simp -dsimp (maxDischargeDepth := 6) only [go_sem]) ?_
  try simp -dsimp (maxDischargeDepth := 6) only [go_sem]
  refine zcut_of (fun s => ∃ (ls2 : (List Tm)), s = ⟨[(1, .ptr 0 0), (2, .ptr 1 0), (3, .sl false 7 (List.map tmC t1.s))], [.box 27 ([.i .u8 t1.k, .s t1.n, .b t1.y.v, .s t1.y.n, .sl false 3 (List.map tyC t1.y.a), .i .i64 t1.i, .row 2]), .box 27 ([.i .u8 0, .s (⟨#[]⟩ : ByteArray), .b false, .s (⟨#[]⟩ : ByteArray), .nils, .i .i64 0, .nils]), .row 27 7 (List.map tmC ls2)]⟩ ∧ terms_TwinO.J1 t1 ls2 = some r) ?_ ?_
  · skip
    try simp -dsimp (maxDischargeDepth := 6) only [go_sem]
    refine zif_of (fun h2 => ?_) (fun h2 => ?_)
    · skip
      replace hF := cond_t h2 hF
      obtain ⟨h3, hF⟩ := ite_of hF hr
      have h3t := eq_true h3
      try simp -dsimp (maxDischargeDepth := 6) only [go_sem, h2, h3t]
      exact ⟨_, (Wks.ok (by simp -dsimp (maxDischargeDepth := 6) only [go_sem, h2, h3t])), (List.replicate (List.length t1.s) (Tm.mk 0 (⟨#[]⟩ : ByteArray) (Ty.mk false (⟨#[]⟩ : ByteArray) []) 0 [])), rfl, hF⟩
    · skip
      replace hF := cond_f h2 hF
      try simp -dsimp (maxDischargeDepth := 6) only [go_sem, h2]
      exact ⟨_, (Wks.trans (b := ⟨[(1, .ptr 0 0), (2, .ptr 1 0), (3, .sl false 7 (List.map tmC t1.s))], [.box 27 [.i .u8 t1.k, .s t1.n, .b t1.y.v, .s t1.y.n, .sl false 3 (List.map tyC t1.y.a), .i .i64 t1.i, .nils], .box 27 [.i .u8 0, .s (⟨#[]⟩ : ByteArray), .b false, .s (⟨#[]⟩ : ByteArray), .nils, .i .i64 0, .nils]]⟩) (Wks.ok (by simp -dsimp (maxDischargeDepth := 6) only [go_sem, h2])) (Wks.trans (Wks.adoptB 0 _ _ 6 27 7 rfl (by simp -dsimp (maxDischargeDepth := 6) only [go_sem]) (by decide)) (Wks.ok (by simp -dsimp (maxDischargeDepth := 6) only [go_sem, h2])))), [], rfl, hF⟩
  clear hF
  rintro _ ⟨ls2, rfl, hF⟩ hfit
  unfold terms_TwinO.J1 at hF
  try simp -dsimp (maxDischargeDepth := 6) only [go_sem]
  refine zloop_of (fun m s => ∃ (rest2 : List Tm) (x5 : Nat) (ls4 : (List Tm)), List.drop x5 t1.s = rest2 ∧ List.length rest2 = m ∧ s = ⟨[(1, .ptr 0 0), (2, .ptr 1 0), (20, .sl false 7 (List.map tmC t1.s)), (21, .i .i64 (List.length t1.s : Int)), (22, .i .i64 (x5 : Int))], [.box 27 ([.i .u8 t1.k, .s t1.n, .b t1.y.v, .s t1.y.n, .sl false 3 (List.map tyC t1.y.a), .i .i64 t1.i, .row 2]), .box 27 ([.i .u8 0, .s (⟨#[]⟩ : ByteArray), .b false, .s (⟨#[]⟩ : ByteArray), .nils, .i .i64 0, .nils]), .row 27 7 (List.map tmC ls4)]⟩ ∧ terms_TwinO.L2 t1 rest2 x5 ls4 = some r) (List.length t1.s) ⟨_, (Wks.ok (by simp -dsimp (maxDischargeDepth := 6) only [go_sem])), t1.s, 0, ls2, rfl, rfl, rfl, hF⟩ ?_
  clear hF
  rintro _ _ ⟨rest2, x5, ls4, hd2, rfl, rfl, hF⟩ hfit
  have h6 : List.length t1.s ≤ LIM := by
    have h := hfit.t 20; simp only [e_lk, Nat.reduceBEq, cond_true, cond_false, Fit, FitL, ty_eq, tm_eq, List.length_map, sqC_eq] at h; omega
  cases rest2 with
  | nil =>
    have h4 := dn hd2
    unfold terms_TwinO.L2 at hF
    cases hF
    try simp -dsimp (maxDischargeDepth := 6) only [go_sem, h4]
    refine wv_row 2 (by simp -dsimp (maxDischargeDepth := 6) only [go_sem, h4])
  | cons e6 rest2 =>
    obtain ⟨h4, h5, hd2⟩ := dc hd2
    have h7 := wi h4 h6
    unfold terms_TwinO.L2 at hF
    try simp -dsimp (maxDischargeDepth := 6) only [go_sem, h4, h5, h7]
    refine call_ok (twinT_pc e6) (by simp -dsimp (maxDischargeDepth := 6) only [go_sem, h4, h5, h7]) ?_
    obtain ⟨⟨h8, h9⟩, hF⟩ := ite_of hF hr
    obtain ⟨yh10, h10⟩ := get_some (show x5 < List.length ls4 by omega)
    have h8t := eq_true h8
    have h9t := eq_true h9
    try simp -dsimp (maxDischargeDepth := 6) only [go_sem, h4, h5, h7, h8t, h9t, h10]
    exact ⟨List.length rest2, _, Nat.lt_succ_self _, (Wks.ok (by simp -dsimp (maxDischargeDepth := 6) only [go_sem, h4, h5, h7, h8t, h9t, h10])), rest2, x5 + 1, (List.set ls4 x5 e6), hd2, rfl, rfl, hF⟩
theorem terms_TwinO_ok (t : Tm) (hl : t.s.length ≤ LIM) : terms_TwinO t = some t := by
  have key : ∀ (rest : List Tm) (i : Nat) (ls : List Tm), i + rest.length = ls.length → terms_TwinO.L2 t rest i ls = some (Tm.mk t.k t.n t.y t.i (ls.take i ++ rest)) := by
    intro rest
    induction rest with
    | nil => intro i ls h; simp at h; simp [terms_TwinO.L2, h]
    | cons x l ih =>
      intro i ls h
      simp only [List.length_cons] at h
      have h2 : 0 ≤ (i : Int) ∧ (i : Int) < (ls.length : Int) := by omega
      simp only [terms_TwinO.L2]
      rw [if_pos h2, ih _ _ (by simp; omega), take_set_succ (by omega)]
      simp
  unfold terms_TwinO terms_TwinO.J1
  by_cases h : 0 < t.s.length
  · have h' : 0 < (t.s.length : Int) := by omega
    rw [key _ _ _ (by simp), decide_eq_true h', cond_true, if_pos hl]
    cases t; simp [Tm.k, Tm.n, Tm.y, Tm.i, Tm.s]
  · have h' : ¬ 0 < (t.s.length : Int) := by omega
    have e : t.s = [] := List.eq_nil_of_length_eq_zero (by omega)
    cases t; simp only [Tm.s] at e; subst e; simp [terms_TwinO.L2, Tm.k, Tm.n, Tm.y, Tm.i, Tm.s]
theorem twinT_own (t : Tm) : PR Go.Proofs.Try.prog 52 [.agg (tmC t)] [.row 27 7 (List.map tmC t.s)] (.agg [.i .u8 t.k, .s t.n, .b t.y.v, .s t.y.n, .sl false 3 (List.map tyC t.y.a), .i .i64 t.i, .row 0]) :=
  PR.of_fit (Ent_of Go.Proofs.Try.func52 s52_ok) fun hf => terms_TwinO_own t t (terms_TwinO_ok t (fit_lenT t hf))
/-- sequent/quantifier.quantify -/
def bo36 : SCode :=
  (.seq (.ops [.op (some 4) (.bx (.t 1)),
      .op (some 5) (.bx (.t 2)),
      .op (some 6) (.alm 27 zTm),
      .op (some 7) (.mv (.c (.i .i64 0)))])
  (.seq (.seq (.ops [.op (some 15) (.ld (.t 4) 7 true),
      .op (some 16) (.ld (.t 5) 7 true),
      .op (some 17) (.bsl 7 [(.t 15), (.t 16)]),
      .op (some 18) (.len (.t 17)),
      .op (some 19) (.mv (.c (.i .i64 0)))])
  (.block 0 (.loop (.seq (.ops [.op (some 20) (.bi .lss (.t 19) (.t 18))])
  (.seq (.cond (.t 20) .skip
    (.exit 0))
  (.seq (.block 1 (.seq (.ops [.op (some 21) (.ia 7 (.t 17) (.t 19)),
      .op (some 22) (.ld (.t 21) 7 true),
      .op (some 9) (.alm 27 zTm),
      .op none (.st (.t 9) 7 (.t 22))])
  (.seq (.ops [.op (some 23) (.ld (.t 9) 7 true),
      .call (some 24) (.c (.fn (.func 46) [] [])) [(.t 23)],
      .op (some 10) (.mv (.t 24))])
  (.seq (.ops [.op (some 25) (.mv (.t 10)),
      .op (some 26) (.bi .neq (.t 25) (.c (.i .i64 0)))])
  (.cond (.t 26) (.seq (.ops [.op (some 27) (.bld zTm []),
        .op (some 28) (.mv (.t 10)),
        .op none (.st (.t 6) 7 (.t 27)),
        .op (some 7) (.mv (.t 28))])
    .ret)
    .skip)))))
  (.ops [.op (some 29) (.bi .add (.t 19) (.c (.i .i64 1))),
      .op (some 19) (.mv (.t 29))])))))))
  (.seq (cutS (.ops [.op (some 30) (.fa (.t 4) 0),
      .op (some 31) (.ld (.t 30) 1 false),
      .op (some 32) (.bi .neq (.t 31) (.c (.i .u8 1))),
      .op (some 33) (.mv (.t 32)),
      .gd 33 false (some 34) (.op (some 34) (.ld (.t 5) 7 true)),
      .gd 33 false (some 35) (.call (some 35) (.c (.fn (.func 50) [] [])) [(.t 34)]),
      .gd 33 false (some 36) (.op (some 36) (.un .not (.t 35))),
      .op (some 37) (.pk (.t 33) (.c (.b true)) (.t 36))])
  (.cond (.t 37) (.seq (.ops [.op (some 38) (.bld zTm []),
        .op none (.st (.t 6) 7 (.t 38)),
        .op (some 7) (.mv (.c (.i .i64 20)))])
    .ret)
    .skip))
  (.seq (.ops [.op (some 39) (.mv (.t 0)),
      .op (some 40) (.fa (.t 4) 2),
      .op (some 41) (.ld (.t 40) 3 true),
      .call (some 42) (.c (.fn (.func 71) [] [])) [(.t 41)],
      .op (some 43) (.bld zTm [(0, 1, (.c (.i .u8 2))), (1, 1, (.t 39)), (2, 3, (.t 42))]),
      .op (some 11) (.alm 27 zTm),
      .op none (.st (.t 11) 7 (.t 43))])
  (.seq (.draw [.op (some 44) (.fa (.t 4) 1),
      .op (some 45) (.ldi (.t 44) 1 false),
      .op (some 46) (.fa (.t 4) 2),
      .op (some 47) (.ldi (.t 46) 3 true),
      .op (some 48) (.ldi (.t 5) 7 true),
      .op (some 49) (.ldi (.t 4) 7 true),
      .call (some 50) (.c (.fn (.func 72) [] [])) [(.t 48), (.t 49), (.c (.i .i64 0))],
      .op (some 51) (.bsl 7 [(.t 50)]),
      .op (some 52) (.bld zTm [(0, 1, (.c (.i .u8 5))), (1, 1, (.t 45)), (2, 3, (.t 47)), (6, 1, (.t 51))]),
      .op (some 12) (.alm 27 zTm),
      .op none (.st (.t 12) 7 (.t 52))])
  (.seq (.ops [.op (some 53) (.ld (.t 11) 7 true),
      .op (some 54) (.ld (.t 12) 7 true),
      .op (some 55) (.bsl 7 [(.t 53), (.t 54)]),
      .op (some 56) (.bld zTm [(0, 1, (.c (.i .u8 4))), (6, 1, (.t 55))]),
      .op (some 13) (.alm 27 zTm),
      .op none (.st (.t 13) 7 (.t 56))])
  (.seq (.seq (.ops [.op (some 57) (.ld (.t 13) 7 true),
      .call (some 58) (.c (.fn (.func 46) [] [])) [(.t 57)],
      .op (some 14) (.mv (.t 58))])
  (.seq (.ops [.op (some 59) (.mv (.t 14)),
      .op (some 60) (.bi .neq (.t 59) (.c (.i .i64 0)))])
  (.cond (.t 60) (.seq (.ops [.op (some 61) (.bld zTm []),
        .op (some 62) (.mv (.t 14)),
        .op none (.st (.t 6) 7 (.t 61)),
        .op (some 7) (.mv (.t 62))])
    .ret)
    .skip)))
  (.seq (.ops [.op (some 63) (.ld (.t 13) 7 true),
      .callr (some 64) (.c (.fn (.func 52) [] [])) [(.t 63)],
      .op none (.st (.t 6) 7 (.t 64)),
      .op (some 7) (.mv (.c (.i .i64 0)))])
  .ret))))))))
theorem so36_ok : fnOk Go.Proofs.Try.prog Go.Proofs.Try.f36 ⟨65, [.c 6 7 true, .t 7], bo36⟩ = true := by kernel_rfl
def quantifyO.J4 (x1 : ByteArray) (x2 : Tm) (x3 : Tm) (x7 : Bool) : Option (Tm × Int) := (bif x7 then some ((Tm.mk 0 (⟨#[]⟩ : ByteArray) (Ty.mk false (⟨#[]⟩ : ByteArray) []) 0 []), 20) else (lt (prove_Over x2.y) fun r8 => (Option.bind (bindO x3 x2 0) fun r9 => (Option.bind (terms_Check (Tm.mk 4 (⟨#[]⟩ : ByteArray) (Ty.mk false (⟨#[]⟩ : ByteArray) []) 0 [(Tm.mk 2 x1 r8 0 []), (Tm.mk 5 x2.n x2.y 0 [r9])])) fun r10 => (bif (!decide (r10 = 0)) then some ((Tm.mk 0 (⟨#[]⟩ : ByteArray) (Ty.mk false (⟨#[]⟩ : ByteArray) []) 0 []), r10) else some ((Tm.mk ((Tm.mk 4 (⟨#[]⟩ : ByteArray) (Ty.mk false (⟨#[]⟩ : ByteArray) []) 0 [(Tm.mk 2 x1 r8 0 []), (Tm.mk 5 x2.n x2.y 0 [r9])]).k) ((Tm.mk 4 (⟨#[]⟩ : ByteArray) (Ty.mk false (⟨#[]⟩ : ByteArray) []) 0 [(Tm.mk 2 x1 r8 0 []), (Tm.mk 5 x2.n x2.y 0 [r9])]).n) ((Tm.mk 4 (⟨#[]⟩ : ByteArray) (Ty.mk false (⟨#[]⟩ : ByteArray) []) 0 [(Tm.mk 2 x1 r8 0 []), (Tm.mk 5 x2.n x2.y 0 [r9])]).y) ((Tm.mk 4 (⟨#[]⟩ : ByteArray) (Ty.mk false (⟨#[]⟩ : ByteArray) []) 0 [(Tm.mk 2 x1 r8 0 []), (Tm.mk 5 x2.n x2.y 0 [r9])]).i) ((Tm.mk 4 (⟨#[]⟩ : ByteArray) (Ty.mk false (⟨#[]⟩ : ByteArray) []) 0 [(Tm.mk 2 x1 r8 0 []), (Tm.mk 5 x2.n x2.y 0 [r9])]).s)), 0))))))
def quantifyO.U3 (x1 : ByteArray) (x2 : Tm) (x3 : Tm) : Option (Tm × Int) := (bif (!decide (x2.k = 1)) then (quantifyO.J4 x1 x2 x3 true) else (Option.bind (prove_Formula x3) fun r6 => (quantifyO.J4 x1 x2 x3 (!r6))))
def quantifyO.U2 (x1 : ByteArray) (x2 : Tm) (x3 : Tm) : Option (Tm × Int) := (Option.bind (terms_Check x3) fun r5 => (bif (!decide (r5 = 0)) then some ((Tm.mk 0 (⟨#[]⟩ : ByteArray) (Ty.mk false (⟨#[]⟩ : ByteArray) []) 0 []), r5) else (quantifyO.U3 x1 x2 x3)))
def quantifyO.U1 (x1 : ByteArray) (x2 : Tm) (x3 : Tm) : Option (Tm × Int) := (Option.bind (terms_Check x2) fun r4 => (bif (!decide (r4 = 0)) then some ((Tm.mk 0 (⟨#[]⟩ : ByteArray) (Ty.mk false (⟨#[]⟩ : ByteArray) []) 0 []), r4) else (quantifyO.U2 x1 x2 x3)))
def quantifyO (x1 : ByteArray) (x2 : Tm) (x3 : Tm) : Option (Tm × Int) := (quantifyO.U1 x1 x2 x3)
theorem quantifyO_own (x1 : ByteArray) (x2 : Tm) (x3 : Tm) (r : Tm × Int) (hF : quantifyO x1 x2 x3 = some r) : PR Go.Proofs.Try.prog 36 [.s x1, .agg (tmC x2), .agg (tmC x3)] [.row 27 7 (List.map tmC r.1.s)] (.tup [.agg [.i .u8 r.1.k, .s r.1.n, .b r.1.y.v, .s r.1.y.n, .sl false 3 (List.map tyC r.1.y.a), .i .i64 r.1.i, .row 0], .i .i64 r.2]) := by
  obtain ⟨z, hr⟩ : ∃ z, some r = some z := ⟨_, rfl⟩
  refine PR_z Go.Proofs.Try.func36 so36_ok (Nat.le_of_ble_eq_true rfl) fun hf => ?_
  unfold bo36 start
  unfold quantifyO at hF
  try simp -dsimp (maxDischargeDepth := 6) only [go_sem]
  refine zloop_of (fun m s => (m = 2 ∧ s = ⟨[(0, .s x1), (4, .ip (tmC x2)), (5, .ip (tmC x3)), (6, .ptr 0 0), (17, .sl true 7 [tmC x2, tmC x3]), (18, .i .i64 2), (19, .i .i64 0)], [.box 27 ([.i .u8 0, .s (⟨#[]⟩ : ByteArray), .b false, .s (⟨#[]⟩ : ByteArray), .nils, .i .i64 0, .nils])]⟩ ∧ quantifyO.U1 x1 x2 x3 = some r) ∨ (m = 1 ∧ s = ⟨[(0, .s x1), (4, .ip (tmC x2)), (5, .ip (tmC x3)), (6, .ptr 0 0), (17, .sl true 7 [tmC x2, tmC x3]), (18, .i .i64 2), (19, .i .i64 1)], [.box 27 ([.i .u8 0, .s (⟨#[]⟩ : ByteArray), .b false, .s (⟨#[]⟩ : ByteArray), .nils, .i .i64 0, .nils])]⟩ ∧ quantifyO.U2 x1 x2 x3 = some r) ∨ (m = 0 ∧ s = ⟨[(0, .s x1), (4, .ip (tmC x2)), (5, .ip (tmC x3)), (6, .ptr 0 0), (17, .sl true 7 [tmC x2, tmC x3]), (18, .i .i64 2), (19, .i .i64 2)], [.box 27 ([.i .u8 0, .s (⟨#[]⟩ : ByteArray), .b false, .s (⟨#[]⟩ : ByteArray), .nils, .i .i64 0, .nils])]⟩ ∧ quantifyO.U3 x1 x2 x3 = some r)) 2 ⟨_, (Wks.ok (by simp -dsimp (maxDischargeDepth := 6) only [go_sem])), (Or.inl ⟨rfl, rfl, hF⟩)⟩ ?_
  clear hF
  intro m s hj hfit
  rcases hj with ⟨rfl, rfl, hF⟩ | ⟨rfl, rfl, hF⟩ | ⟨rfl, rfl, hF⟩
  · skip
    unfold quantifyO.U1 at hF
    obtain ⟨r4, h1, hF⟩ := bind_of hF hr
    try simp -dsimp (maxDischargeDepth := 6) only [go_sem]
    refine call_ok (terms_Check_pc x2  _ h1) (by simp -dsimp (maxDischargeDepth := 6) only [go_sem]) ?_
    try simp -dsimp (maxDischargeDepth := 6) only [go_sem]
    refine zif_of (fun h2 => ?_) (fun h2 => ?_)
    · skip
      replace hF := cond_t h2 hF
      cases hF
      try simp -dsimp (maxDischargeDepth := 6) only [go_sem, h2]
      refine wv_nil (by simp -dsimp (maxDischargeDepth := 6) only [go_sem, h2])
    · skip
      replace hF := cond_f h2 hF
      try simp -dsimp (maxDischargeDepth := 6) only [go_sem, h2]
      exact ⟨1, _, by decide, (Wks.ok (by simp -dsimp (maxDischargeDepth := 6) only [go_sem, h2])), (Or.inr (Or.inl ⟨rfl, rfl, hF⟩))⟩
  · skip
    unfold quantifyO.U2 at hF
    obtain ⟨r5, h3, hF⟩ := bind_of hF hr
    try simp -dsimp (maxDischargeDepth := 6) only [go_sem]
    refine call_ok (terms_Check_pc x3  _ h3) (by simp -dsimp (maxDischargeDepth := 6) only [go_sem]) ?_
    try simp -dsimp (maxDischargeDepth := 6) only [go_sem]
    refine zif_of (fun h4 => ?_) (fun h4 => ?_)
    · skip
      replace hF := cond_t h4 hF
      cases hF
      try simp -dsimp (maxDischargeDepth := 6) only [go_sem, h4]
      refine wv_nil (by simp -dsimp (maxDischargeDepth := 6) only [go_sem, h4])
    · skip
      replace hF := cond_f h4 hF
      try simp -dsimp (maxDischargeDepth := 6) only [go_sem, h4]
      exact ⟨0, _, by decide, (Wks.ok (by simp -dsimp (maxDischargeDepth := 6) only [go_sem, h4])), (Or.inr (Or.inr ⟨rfl, rfl, hF⟩))⟩
  · skip
    unfold quantifyO.U3 at hF
    try simp -dsimp (maxDischargeDepth := 6) only [go_sem]
    refine zcut_of (fun s => ∃ (x7 : Bool), s = ⟨[(0, .s x1), (4, .ip (tmC x2)), (5, .ip (tmC x3)), (6, .ptr 0 0), (37, .b x7)], [.box 27 ([.i .u8 0, .s (⟨#[]⟩ : ByteArray), .b false, .s (⟨#[]⟩ : ByteArray), .nils, .i .i64 0, .nils])]⟩ ∧ quantifyO.J4 x1 x2 x3 x7 = some r) ?_ ?_
    · skip
      try simp -dsimp (maxDischargeDepth := 6) only [go_sem]
      refine zif_of (fun h6 => ?_) (fun h6 => ?_)
      · skip
        replace hF := cond_t h6 hF
        try simp -dsimp (maxDischargeDepth := 6) only [go_sem, h6]
        exact ⟨_, (Wks.ok (by simp -dsimp (maxDischargeDepth := 6) only [go_sem, h6])), true, rfl, hF⟩
      · skip
        replace hF := cond_f h6 hF
        obtain ⟨r6, h7, hF⟩ := bind_of hF hr
        try simp -dsimp (maxDischargeDepth := 6) only [go_sem, h6]
        refine call_ok (prove_Formula_pc x3  _ h7) (by simp -dsimp (maxDischargeDepth := 6) only [go_sem, h6]) ?_
        try simp -dsimp (maxDischargeDepth := 6) only [go_sem, h6]
        exact ⟨_, (Wks.ok (by simp -dsimp (maxDischargeDepth := 6) only [go_sem, h6])), (!r6), rfl, hF⟩
    clear hF
    rintro _ ⟨x7, rfl, hF⟩ hfit
    unfold quantifyO.J4 at hF
    try simp -dsimp (maxDischargeDepth := 6) only [go_sem]
    refine zif_of (fun h8 => ?_) (fun h8 => ?_)
    · skip
      replace hF := cond_t h8 hF
      cases hF
      try simp -dsimp (maxDischargeDepth := 6) only [go_sem, h8]
      refine wv_nil (by simp -dsimp (maxDischargeDepth := 6) only [go_sem, h8])
    · skip
      replace hF := cond_f h8 hF
      obtain ⟨r8, h9, hF⟩ := lt_of hF
      try simp -dsimp (maxDischargeDepth := 6) only [go_sem, h8]
      have hp := (prove_Over_pc x2.y )
      rw [h9] at hp
      refine call_ok hp (by simp -dsimp (maxDischargeDepth := 6) only [go_sem, h8]) ?_
      clear hp
      obtain ⟨r9, h10, hF⟩ := bind_of hF hr
      try simp -dsimp (maxDischargeDepth := 6) only [go_sem, h8]
      refine call_ok (bindO_pc x3 x2 0  _ h10) (by simp -dsimp (maxDischargeDepth := 6) only [go_sem, h8]) ?_
      obtain ⟨r10, h11, hF⟩ := bind_of hF hr
      try simp -dsimp (maxDischargeDepth := 6) only [go_sem, h8]
      refine call_ok (terms_Check_pc (Tm.mk 4 (⟨#[]⟩ : ByteArray) (Ty.mk false (⟨#[]⟩ : ByteArray) []) 0 [(Tm.mk 2 x1 r8 0 []), (Tm.mk 5 x2.n x2.y 0 [r9])])  _ h11) (by simp -dsimp (maxDischargeDepth := 6) only [go_sem, h8]) ?_
      try simp -dsimp (maxDischargeDepth := 6) only [go_sem, h8]
      refine zif_of (fun h12 => ?_) (fun h12 => ?_)
      · skip
        replace hF := cond_t h12 hF
        cases hF
        try simp -dsimp (maxDischargeDepth := 6) only [go_sem, h8, h12]
        refine wv_nil (by simp -dsimp (maxDischargeDepth := 6) only [go_sem, h8, h12])
      · skip
        replace hF := cond_f h12 hF
        try simp -dsimp (maxDischargeDepth := 6) only [go_sem, h8, h12]
        refine callr_ok (twinT_own (Tm.mk 4 (⟨#[]⟩ : ByteArray) (Ty.mk false (⟨#[]⟩ : ByteArray) []) 0 [(Tm.mk 2 x1 r8 0 []), (Tm.mk 5 x2.n x2.y 0 [r9])])) (by simp -dsimp (maxDischargeDepth := 6) only [go_sem, h8, h12]) ?_
        cases hF
        try simp -dsimp (maxDischargeDepth := 6) only [go_sem, h8, h12]
        refine wv_row 4 (by simp -dsimp (maxDischargeDepth := 6) only [go_sem, h8, h12])
theorem quantifyO_eq (n : ByteArray) (v t : Tm) : quantifyO n v t = quantifier_quantify n v t := rfl
/-- sequent/quantifier.MkExists -/
def bo9 : SCode :=
  (.seq (.ops [.op (some 2) (.bx (.t 0)),
      .op (some 3) (.bx (.t 1)),
      .op (some 4) (.alm 27 zTm),
      .op (some 5) (.mv (.c (.i .i64 0)))])
  (.seq (.ops [.op (some 6) (.ld (.t 2) 7 true),
      .op (some 7) (.ld (.t 3) 7 true),
      .callr (some 8) (.c (.fn (.func 36) [] [])) [(.c (.s { data := #[63] })), (.t 6), (.t 7)],
      .op (some 9) (.ext (.t 8) 0),
      .op (some 10) (.ext (.t 8) 1),
      .op none (.st (.t 4) 7 (.t 9)),
      .op (some 5) (.mv (.t 10))])
  .ret))
theorem so9_ok : fnOk Go.Proofs.Try.prog Go.Proofs.Try.f9 ⟨11, [.c 4 7 true, .t 5], bo9⟩ = true := by kernel_rfl
def MkExistsO (v1 : Tm) (t2 : Tm) : Option (Tm × Int) := (Option.bind (quantifyO (⟨#[63]⟩ : ByteArray) v1 t2) fun r3 => some (r3.1, r3.2))
theorem MkExistsO_own (v1 : Tm) (t2 : Tm) (r : Tm × Int) (hF : MkExistsO v1 t2 = some r) : PR Go.Proofs.Try.prog 9 [.agg (tmC v1), .agg (tmC t2)] [.row 27 7 (List.map tmC r.1.s)] (.tup [.agg [.i .u8 r.1.k, .s r.1.n, .b r.1.y.v, .s r.1.y.n, .sl false 3 (List.map tyC r.1.y.a), .i .i64 r.1.i, .row 0], .i .i64 r.2]) := by
  obtain ⟨z, hr⟩ : ∃ z, some r = some z := ⟨_, rfl⟩
  refine PR_z Go.Proofs.Try.func9 so9_ok (Nat.le_of_ble_eq_true rfl) fun hf => ?_
  unfold bo9 start
  unfold MkExistsO at hF
  obtain ⟨r3, h1, hF⟩ := bind_of hF hr
  try simp -dsimp (maxDischargeDepth := 6) only [go_sem]
  refine callr_ok (quantifyO_own (⟨#[63]⟩ : ByteArray) v1 t2 _ h1) (by simp -dsimp (maxDischargeDepth := 6) only [go_sem]) ?_
  cases hF
  try simp -dsimp (maxDischargeDepth := 6) only [go_sem]
  refine wv_row 1 (by simp -dsimp (maxDischargeDepth := 6) only [go_sem])
/-- sequent/classical.MkSelect -/
def b17 : SCode :=
  (.seq (.ops [.op (some 2) (.bx (.t 0)),
      .op (some 3) (.bx (.t 1)),
      .op (some 4) (.alm 27 zTm),
      .op (some 5) (.mv (.c (.i .i64 0)))])
  (.seq (.ops [.op (some 10) (.ld (.t 2) 7 true),
      .op (some 11) (.ld (.t 3) 7 true),
      .callr (some 12) (.c (.fn (.func 9) [] [])) [(.t 10), (.t 11)],
      .op (some 9) (.mv (.t 12)),
      .op (some 13) (.ext (.t 9) 0),
      .op (some 14) (.ext (.t 9) 1),
      .op (some 6) (.alm 27 zTm),
      .op none (.st (.t 6) 7 (.t 13)),
      .op (some 7) (.mv (.t 14))])
  (.seq (.seq (.ops [.op (some 15) (.mv (.t 7)),
      .op (some 16) (.bi .neq (.t 15) (.c (.i .i64 0)))])
  (.cond (.t 16) (.seq (.ops [.op (some 17) (.bld zTm []),
        .op (some 18) (.mv (.t 7)),
        .op none (.st (.t 4) 7 (.t 17)),
        .op (some 5) (.mv (.t 18))])
    .ret)
    .skip))
  (.seq (.draw [.op (some 19) (.fa (.t 6) 6),
      .op (some 20) (.ld (.t 19) 1 false),
      .op (some 21) (.fa (.t 2) 2),
      .op (some 22) (.ldi (.t 21) 3 true),
      .call (some 23) (.c (.fn (.func 45) [] [])) [],
      .call (some 24) (.c (.fn (.func 44) [] [])) [(.t 22), (.t 23)],
      .op (some 25) (.fa (.t 2) 2),
      .op (some 26) (.ldi (.t 25) 3 true),
      .call (some 27) (.c (.fn (.func 44) [] [])) [(.t 24), (.t 26)],
      .op (some 28) (.bld zTm [(0, 1, (.c (.i .u8 2))), (1, 1, (.c (.s { data := #[64] }))), (2, 3, (.t 27))]),
      .op (some 29) (.ia 7 (.t 20) (.c (.i .i64 0))),
      .op none (.st (.t 29) 7 (.t 28))])
  (.seq (.seq (.ops [.op (some 30) (.ld (.t 6) 7 true),
      .callr (some 31) (.c (.fn (.func 46) [] [])) [(.t 30)],
      .op (some 8) (.mv (.t 31))])
  (.seq (.ops [.op (some 32) (.mv (.t 8)),
      .op (some 33) (.bi .neq (.t 32) (.c (.i .i64 0)))])
  (.cond (.t 33) (.seq (.ops [.op (some 34) (.bld zTm []),
        .op (some 35) (.mv (.t 8)),
        .op none (.st (.t 4) 7 (.t 34)),
        .op (some 5) (.mv (.t 35))])
    .ret)
    .skip)))
  (.seq (.ops [.op (some 36) (.ld (.t 6) 7 true),
      .op none (.st (.t 4) 7 (.t 36)),
      .op (some 5) (.mv (.c (.i .i64 0)))])
  .ret))))))
theorem s17_ok : fnOk Go.Proofs.Try.prog Go.Proofs.Try.f17 ⟨37, [.c 4 7 true, .t 5], b17⟩ = true := by kernel_rfl
def classical_MkSelect (v1 : Tm) (t2 : Tm) : Option (Tm × Int) := (Option.bind (MkExistsO v1 t2) fun r3 => (bif (!decide (r3.2 = 0)) then some ((Tm.mk 0 (⟨#[]⟩ : ByteArray) (Ty.mk false (⟨#[]⟩ : ByteArray) []) 0 []), r3.2) else (lt (prove_Bool) fun r4 => (lt (types_Fun v1.y r4) fun r5 => (lt (types_Fun r5 v1.y) fun r6 => (if 0 ≤ (0 : Int) ∧ (0 : Int) < List.length r3.1.s then (Option.bind (terms_Check (Tm.mk r3.1.k r3.1.n r3.1.y r3.1.i (List.set r3.1.s 0 (Tm.mk 2 (⟨#[64]⟩ : ByteArray) r6 0 [])))) fun r7 => (bif (!decide (r7 = 0)) then some ((Tm.mk 0 (⟨#[]⟩ : ByteArray) (Ty.mk false (⟨#[]⟩ : ByteArray) []) 0 []), r7) else some ((Tm.mk r3.1.k r3.1.n r3.1.y r3.1.i (List.set r3.1.s 0 (Tm.mk 2 (⟨#[64]⟩ : ByteArray) r6 0 []))), 0))) else none))))))
theorem classical_MkSelect_pc (v1 : Tm) (t2 : Tm) (r : Tm × Int) (hF : classical_MkSelect v1 t2 = some r) : PC Go.Proofs.Try.prog 17 [.agg (tmC v1), .agg (tmC t2)] (.tup [.agg (tmC r.1), .i .i64 r.2]) := by
  obtain ⟨z, hr⟩ : ∃ z, some r = some z := ⟨_, rfl⟩
  refine PC_z Go.Proofs.Try.func17 s17_ok (Nat.le_of_ble_eq_true rfl) fun hf => ?_
  unfold b17 start
  unfold classical_MkSelect at hF
  obtain ⟨r3, h1, hF⟩ := bind_of hF hr
  try simp -dsimp (maxDischargeDepth := 6) only [go_sem]
  refine callr_ok (MkExistsO_own v1 t2 _ h1) (by simp -dsimp (maxDischargeDepth := 6) only [go_sem]) ?_
  try simp -dsimp (maxDischargeDepth := 6) only [go_sem]
  refine zif_of (fun h2 => ?_) (fun h2 => ?_)
  · skip
    replace hF := cond_t h2 hF
    cases hF
    simp -dsimp (maxDischargeDepth := 6) only [go_sem, h2]
  · skip
    replace hF := cond_f h2 hF
    obtain ⟨r4, h3, hF⟩ := lt_of hF
    try simp -dsimp (maxDischargeDepth := 6) only [go_sem, h2]
    have hp := (prove_Bool_pc  )
    rw [h3] at hp
    refine call_ok hp (by simp -dsimp (maxDischargeDepth := 6) only [go_sem, h2]) ?_
    clear hp
    obtain ⟨r5, h4, hF⟩ := lt_of hF
    try simp -dsimp (maxDischargeDepth := 6) only [go_sem, h2]
    have hp := (types_Fun_pc v1.y r4 )
    rw [h4] at hp
    refine call_ok hp (by simp -dsimp (maxDischargeDepth := 6) only [go_sem, h2]) ?_
    clear hp
    obtain ⟨r6, h5, hF⟩ := lt_of hF
    try simp -dsimp (maxDischargeDepth := 6) only [go_sem, h2]
    have hp := (types_Fun_pc r5 v1.y )
    rw [h5] at hp
    refine call_ok hp (by simp -dsimp (maxDischargeDepth := 6) only [go_sem, h2]) ?_
    clear hp
    obtain ⟨⟨h6, h7⟩, hF⟩ := ite_of hF hr
    obtain ⟨yh8, h8⟩ := get_some (show 0 < List.length r3.1.s by omega)
    have h6t := eq_true h6
    have h7t := eq_true h7
    obtain ⟨r7, h9, hF⟩ := bind_of hF hr
    try simp -dsimp (maxDischargeDepth := 6) only [go_sem, h2, h6t, h7t, h8]
    refine callf_ok (terms_Check_pc (Tm.mk r3.1.k r3.1.n r3.1.y r3.1.i (List.set r3.1.s 0 (Tm.mk 2 (⟨#[64]⟩ : ByteArray) r6 0 [])))  _ h9) (by simp -dsimp (maxDischargeDepth := 6) only [go_sem, h2, h6t, h7t, h8]) rfl ?_
    try simp -dsimp (maxDischargeDepth := 6) only [go_sem, h2, h6t, h7t, h8]
    refine zif_of (fun h10 => ?_) (fun h10 => ?_)
    · skip
      replace hF := cond_t h10 hF
      cases hF
      simp -dsimp (maxDischargeDepth := 6) only [go_sem, h2, h6t, h7t, h8, h10]
    · skip
      replace hF := cond_f h10 hF
      cases hF
      simp -dsimp (maxDischargeDepth := 6) only [go_sem, h2, h6t, h7t, h8, h10]
def chooseY (t : Ty) : Ty := funY (funY t boolY) t
/-- A choice term. -/
def selT (v t : Tm) : Tm := appT (constT ⟨#[64]⟩ (chooseY v.y)) (absT v t)
theorem szY_pos (t : Ty) : 1 ≤ szY t := by cases t; simp only [szY]; omega
theorem dpY_pos (t : Ty) : 1 ≤ dpY t := by cases t; simp only [dpY]; omega
theorem fm_app (f x : Tm) (l : List Ty) : fm (appT f x) l = (fm f l).bind fun u => (fm x l).bind fun v => apY u v := by
  simp [appT, fm, noneY, zeroY, Ty.v, Ty.n, Ty.a]
theorem fm_const (n : ByteArray) (y : Ty) (l : List Ty) : fm (constT n y) l = if nameT n = true ∧ validY y = true then some y else none := by
  simp [constT, fm]
theorem apY_fun (a b x : Ty) : apY (funY a b) x = if cmpTy a x = 0 then some b else none := by
  simp [apY, funY, Ty.v, Ty.n, Ty.a]
theorem valid_over (t : Ty) (h : validY (chooseY t) = true) : validY (overY t) = true := by
  have h1 := szY_pos t
  have h2 := dpY_pos t
  have hb : shapeY boolY = true := by decide
  simp only [chooseY, overY, funY, validY, szY, szYs, dpY, dpYs, shapeY, shapeYs, Bool.and_eq_true, decide_eq_true_eq] at h ⊢
  have e1 : szY boolY = 1 := rfl
  have e2 : dpY boolY = 1 := rfl
  rw [e1] at h ⊢
  rw [e2] at h ⊢
  refine ⟨⟨by omega, by omega⟩, ?_⟩
  exact ⟨h.2.1, h.2.2.1, hb, trivial⟩
theorem sel_small (n : ByteArray) (v t : Tm) : smallT (quantT n v t) = smallT (selT v t) := by
  simp [smallT, quantT, selT, appT, constT, szT, szTs, dpT, dpTs]
theorem sel_none (v t : Tm) (h : fm (quantT ⟨#[63]⟩ v t) [] = none) : fm (selT v t) [] = none := by
  have n1 : nameT ⟨#[63]⟩ = true := by decide
  unfold quantT at h
  unfold selT
  rw [fm_app, fm_const] at h ⊢
  simp only [n1, true_and] at h
  by_cases hv : nameT ⟨#[64]⟩ = true ∧ validY (chooseY v.y) = true
  · rw [if_pos hv]
    rw [if_pos (valid_over _ hv.2)] at h
    simp only [Option.bind_some] at h ⊢
    cases hx : fm (absT v t) [] with
    | none => rfl
    | some u =>
      rw [hx] at h
      simp only [Option.bind_some, overY, chooseY, apY_fun] at h ⊢
      by_cases hc : cmpTy (funY v.y boolY) u = 0
      · rw [if_pos hc] at h; cases h
      · rw [if_neg hc]
  · rw [if_neg hv]; rfl
theorem sel_chk (v t : Tm) (h : chkT (quantT ⟨#[63]⟩ v t) ≠ 0) : chkT (selT v t) = chkT (quantT ⟨#[63]⟩ v t) := by
  unfold chkT at h ⊢
  rw [sel_small] at h ⊢
  by_cases hs : smallT (selT v t) = true
  · rw [if_pos hs] at h
    rw [if_pos hs, if_pos hs]
    by_cases hq : (fm (quantT ⟨#[63]⟩ v t) []).isSome = true
    · rw [if_pos hq] at h; exact absurd rfl h
    · have h0 : fm (quantT ⟨#[63]⟩ v t) [] = none := by simpa using hq
      rw [if_neg hq, sel_none v t h0]; rfl
  · rw [if_neg hs, if_neg hs]
theorem selT_bk (v t : Tm) : bkT (selT v t) ≤ 40 + 3 * bkT v + bkT t := by
  have h1 := bindT_bk t v 0
  have h2 := bkT_eq v
  have e1 : (ByteArray.size ⟨#[102, 117, 110]⟩) = 3 := rfl
  have e2 : (ByteArray.size ⟨#[98, 111, 111, 108]⟩) = 4 := rfl
  have e3 : (ByteArray.size ⟨#[]⟩) = 0 := rfl
  have e4 : (ByteArray.size ⟨#[64]⟩) = 1 := rfl
  simp only [selT, appT, constT, absT, chooseY, funY, boolY, zeroY, bkT, bkTs, bkY, bkYs, e1, e2, e3, e4]
  omega
/-- What the choice term's constructor returns. -/
def mkS (v t : Tm) : Tm × Int :=
  if chkT v ≠ 0 then (zeroT, chkT v) else if chkT t ≠ 0 then (zeroT, chkT t) else if v.k ≠ 1 ∨ isForm t = false then (zeroT, 20)
  else if chkT (selT v t) = 0 then (selT v t, 0) else (zeroT, chkT (selT v t))
theorem MkExistsO_eq (v t : Tm) (hv : okT v) (ht : okT t) : MkExistsO v t = some (mkQ ⟨#[63]⟩ v t) := by
  unfold MkExistsO
  rw [quantifyO_eq, quantify_eq _ v t (by decide) hv ht]
  rfl
theorem MkSelect_eq (v t : Tm) (hv : okT v) (ht : okT t) : classical_MkSelect v t = some (mkS v t) := by
  have hb := selT_bk v t
  have hc := terms_Check_eq (selT v t) (by have := hv.2; have := ht.2; omega)
  unfold classical_MkSelect mkS
  rw [MkExistsO_eq v t hv ht]
  simp only [Option.bind_some, lt_eq, prove_Bool_eq, types_Fun_eq]
  unfold mkQ
  by_cases h1 : chkT v = 0
  · by_cases h2 : chkT t = 0
    · by_cases h3 : v.k ≠ 1 ∨ isForm t = false
      · simp [h1, h2, h3, zeroT, zeroY]
      · by_cases h4 : chkT (quantT ⟨#[63]⟩ v t) = 0
        · simp only [h1, h2, h3, h4, ne_eq, not_true, if_false, if_true]
          have e : Tm.mk (quantT ⟨#[63]⟩ v t).k (quantT ⟨#[63]⟩ v t).n (quantT ⟨#[63]⟩ v t).y (quantT ⟨#[63]⟩ v t).i (List.set (quantT ⟨#[63]⟩ v t).s 0 (Tm.mk 2 ⟨#[64]⟩ (funY (funY v.y boolY) v.y) 0 [])) = selT v t := rfl
          rw [e, hc]
          have hl : (0 : Int) ≤ 0 ∧ (0 : Int) < (List.length (quantT ⟨#[63]⟩ v t).s : Int) := ⟨by omega, by simp [quantT, appT, Tm.s]⟩
          rw [if_pos hl]
          by_cases h5 : chkT (selT v t) = 0 <;> simp [h5, zeroT, zeroY]
        · have h5 := sel_chk v t h4
          have h6 : ¬ chkT (selT v t) = 0 := by rw [h5]; exact h4
          simp only [h1, h2, h3, h4, ne_eq, not_true, if_false, h6, h5]
          simp [h4, zeroT, zeroY]
    · simp [h1, h2, zeroT, zeroY]
  · simp [h1, zeroT, zeroY]
/-- sequent/classical.MkCond -/
def b19 : SCode :=
  (.seq (.ops [.op (some 3) (.bx (.t 0)),
      .op (some 4) (.bx (.t 1)),
      .op (some 5) (.bx (.t 2)),
      .op (some 6) (.alm 27 zTm),
      .op (some 7) (.mv (.c (.i .i64 0)))])
  (.seq (.seq (.ops [.op (some 19) (.ld (.t 3) 7 true),
      .op (some 20) (.ld (.t 4) 7 true),
      .op (some 21) (.ld (.t 5) 7 true),
      .op (some 22) (.bsl 7 [(.t 19), (.t 20), (.t 21)]),
      .op (some 23) (.len (.t 22)),
      .op (some 24) (.mv (.c (.i .i64 0)))])
  (.block 0 (.loop (.seq (.ops [.op (some 25) (.bi .lss (.t 24) (.t 23))])
  (.seq (.cond (.t 25) .skip
    (.exit 0))
  (.seq (.block 1 (.seq (.ops [.op (some 26) (.ia 7 (.t 22) (.t 24)),
      .op (some 27) (.ld (.t 26) 7 true),
      .op (some 9) (.alm 27 zTm),
      .op none (.st (.t 9) 7 (.t 27))])
  (.seq (.ops [.op (some 28) (.ld (.t 9) 7 true),
      .call (some 29) (.c (.fn (.func 46) [] [])) [(.t 28)],
      .op (some 10) (.mv (.t 29))])
  (.seq (.ops [.op (some 30) (.mv (.t 10)),
      .op (some 31) (.bi .neq (.t 30) (.c (.i .i64 0)))])
  (.cond (.t 31) (.seq (.ops [.op (some 32) (.bld zTm []),
        .op (some 33) (.mv (.t 10)),
        .op none (.st (.t 6) 7 (.t 32)),
        .op (some 7) (.mv (.t 33))])
    .ret)
    .skip)))))
  (.ops [.op (some 34) (.bi .add (.t 24) (.c (.i .i64 1))),
      .op (some 24) (.mv (.t 34))])))))))
  (.seq (.ops [.op (some 36) (.ld (.t 4) 7 true),
      .call (some 37) (.c (.fn (.func 49) [] [])) [(.t 36)],
      .op (some 35) (.mv (.t 37)),
      .op (some 38) (.ext (.t 35) 0),
      .op (some 39) (.ext (.t 35) 1),
      .op (some 11) (.alm 24 zTy),
      .op none (.st (.t 11) 3 (.t 38)),
      .op (some 12) (.mv (.t 39))])
  (.seq (.ops [.op (some 41) (.ld (.t 5) 7 true),
      .call (some 42) (.c (.fn (.func 49) [] [])) [(.t 41)],
      .op (some 40) (.mv (.t 42)),
      .op (some 43) (.ext (.t 40) 0),
      .op (some 44) (.ext (.t 40) 1),
      .op (some 13) (.alm 24 zTy),
      .op none (.st (.t 13) 3 (.t 43)),
      .op (some 14) (.mv (.t 44))])
  (.seq (cutS (.ops [.op (some 45) (.ld (.t 3) 7 true),
      .call (some 46) (.c (.fn (.func 50) [] [])) [(.t 45)],
      .op (some 47) (.un .not (.t 46)),
      .op (some 48) (.mv (.t 47)),
      .gd 48 false (some 49) (.op (some 49) (.ld (.t 11) 3 true)),
      .gd 48 false (some 50) (.op (some 50) (.ld (.t 13) 3 true)),
      .gd 48 false (some 51) (.call (some 51) (.c (.fn (.func 51) [] [])) [(.t 49), (.t 50)]),
      .gd 48 false (some 52) (.op (some 52) (.un .not (.t 51))),
      .op (some 53) (.pk (.t 48) (.c (.b true)) (.t 52))])
  (.cond (.t 53) (.seq (.ops [.op (some 54) (.bld zTm []),
        .op none (.st (.t 6) 7 (.t 54)),
        .op (some 7) (.mv (.c (.i .i64 20)))])
    .ret)
    .skip))
  (.seq (.draw [.call (some 55) (.c (.fn (.func 45) [] [])) [],
      .op (some 56) (.ld (.t 11) 3 true),
      .op (some 57) (.ld (.t 11) 3 true),
      .op (some 58) (.ld (.t 11) 3 true),
      .call (some 59) (.c (.fn (.func 44) [] [])) [(.t 57), (.t 58)],
      .call (some 60) (.c (.fn (.func 44) [] [])) [(.t 56), (.t 59)],
      .call (some 61) (.c (.fn (.func 44) [] [])) [(.t 55), (.t 60)],
      .op (some 62) (.bld zTm [(0, 1, (.c (.i .u8 2))), (1, 1, (.c (.s { data := #[67, 79, 78, 68] }))), (2, 3, (.t 61))]),
      .op (some 15) (.alm 27 zTm),
      .op none (.st (.t 15) 7 (.t 62))])
  (.seq (.seq (.ops [.op (some 63) (.ld (.t 3) 7 true),
      .op (some 64) (.ld (.t 4) 7 true),
      .op (some 65) (.ld (.t 5) 7 true),
      .op (some 66) (.bsl 7 [(.t 63), (.t 64), (.t 65)]),
      .op (some 67) (.len (.t 66)),
      .op (some 68) (.mv (.c (.i .i64 0)))])
  (.block 2 (.loop (.seq (.ops [.op (some 69) (.bi .lss (.t 68) (.t 67))])
  (.seq (.cond (.t 69) .skip
    (.exit 2))
  (.seq (.block 3 (.seq (.ops [.op (some 70) (.ia 7 (.t 66) (.t 68)),
      .op (some 71) (.ld (.t 70) 7 true),
      .op (some 17) (.alm 27 zTm),
      .op none (.st (.t 17) 7 (.t 71))])
  (.ops [.op (some 72) (.ld (.t 15) 7 true),
      .op (some 73) (.ld (.t 17) 7 true),
      .op (some 74) (.bsl 7 [(.t 72), (.t 73)]),
      .op (some 75) (.bld zTm [(0, 1, (.c (.i .u8 4))), (6, 1, (.t 74))]),
      .op none (.st (.t 15) 7 (.t 75))])))
  (.ops [.op (some 76) (.bi .add (.t 68) (.c (.i .i64 1))),
      .op (some 68) (.mv (.t 76))])))))))
  (.seq (.seq (.ops [.op (some 77) (.ld (.t 15) 7 true),
      .call (some 78) (.c (.fn (.func 46) [] [])) [(.t 77)],
      .op (some 18) (.mv (.t 78))])
  (.seq (.ops [.op (some 79) (.mv (.t 18)),
      .op (some 80) (.bi .neq (.t 79) (.c (.i .i64 0)))])
  (.cond (.t 80) (.seq (.ops [.op (some 81) (.bld zTm []),
        .op (some 82) (.mv (.t 18)),
        .op none (.st (.t 6) 7 (.t 81)),
        .op (some 7) (.mv (.t 82))])
    .ret)
    .skip)))
  (.seq (.ops [.op (some 83) (.ld (.t 15) 7 true),
      .call (some 84) (.c (.fn (.func 52) [] [])) [(.t 83)],
      .op none (.st (.t 6) 7 (.t 84)),
      .op (some 7) (.mv (.c (.i .i64 0)))])
  .ret)))))))))
theorem s19_ok : fnOk Go.Proofs.Try.prog Go.Proofs.Try.f19 ⟨85, [.c 6 7 true, .t 7], b19⟩ = true := by kernel_rfl
def classical_MkCond.U9 (x1 : Tm) (x2 : Tm) (x3 : Tm) (r14 : Ty) : Option (Tm × Int) := (Option.bind (terms_Check (Tm.mk 4 (⟨#[]⟩ : ByteArray) (Ty.mk false (⟨#[]⟩ : ByteArray) []) 0 [(Tm.mk 4 (⟨#[]⟩ : ByteArray) (Ty.mk false (⟨#[]⟩ : ByteArray) []) 0 [(Tm.mk 4 (⟨#[]⟩ : ByteArray) (Ty.mk false (⟨#[]⟩ : ByteArray) []) 0 [(Tm.mk 2 (⟨#[67, 79, 78, 68]⟩ : ByteArray) r14 0 []), x1]), x2]), x3])) fun r15 => (bif (!decide (r15 = 0)) then some ((Tm.mk 0 (⟨#[]⟩ : ByteArray) (Ty.mk false (⟨#[]⟩ : ByteArray) []) 0 []), r15) else some ((Tm.mk 4 (⟨#[]⟩ : ByteArray) (Ty.mk false (⟨#[]⟩ : ByteArray) []) 0 [(Tm.mk 4 (⟨#[]⟩ : ByteArray) (Ty.mk false (⟨#[]⟩ : ByteArray) []) 0 [(Tm.mk 4 (⟨#[]⟩ : ByteArray) (Ty.mk false (⟨#[]⟩ : ByteArray) []) 0 [(Tm.mk 2 (⟨#[67, 79, 78, 68]⟩ : ByteArray) r14 0 []), x1]), x2]), x3]), 0)))
def classical_MkCond.U8 (x1 : Tm) (x2 : Tm) (x3 : Tm) (r14 : Ty) : Option (Tm × Int) := (classical_MkCond.U9 x1 x2 x3 r14)
def classical_MkCond.U7 (x1 : Tm) (x2 : Tm) (x3 : Tm) (r14 : Ty) : Option (Tm × Int) := (classical_MkCond.U8 x1 x2 x3 r14)
def classical_MkCond.U6 (x1 : Tm) (x2 : Tm) (x3 : Tm) (r14 : Ty) : Option (Tm × Int) := (classical_MkCond.U7 x1 x2 x3 r14)
def classical_MkCond.J5 (x1 : Tm) (x2 : Tm) (x3 : Tm) (x10 : Bool) (r7 : (Ty × Int)) : Option (Tm × Int) := (bif x10 then some ((Tm.mk 0 (⟨#[]⟩ : ByteArray) (Ty.mk false (⟨#[]⟩ : ByteArray) []) 0 []), 20) else (lt (prove_Bool) fun r11 => (lt (types_Fun r7.1 r7.1) fun r12 => (lt (types_Fun r7.1 r12) fun r13 => (lt (types_Fun r11 r13) fun r14 => (classical_MkCond.U6 x1 x2 x3 r14))))))
def classical_MkCond.U4 (x1 : Tm) (x2 : Tm) (x3 : Tm) : Option (Tm × Int) := (Option.bind (terms_TypeOf x2) fun r7 => (Option.bind (terms_TypeOf x3) fun r8 => (Option.bind (prove_Formula x1) fun r9 => (bif (!r9) then (classical_MkCond.J5 x1 x2 x3 true r7) else (classical_MkCond.J5 x1 x2 x3 (!(types_Same r7.1 r8.1)) r7)))))
def classical_MkCond.U3 (x1 : Tm) (x2 : Tm) (x3 : Tm) : Option (Tm × Int) := (Option.bind (terms_Check x3) fun r6 => (bif (!decide (r6 = 0)) then some ((Tm.mk 0 (⟨#[]⟩ : ByteArray) (Ty.mk false (⟨#[]⟩ : ByteArray) []) 0 []), r6) else (classical_MkCond.U4 x1 x2 x3)))
def classical_MkCond.U2 (x1 : Tm) (x2 : Tm) (x3 : Tm) : Option (Tm × Int) := (Option.bind (terms_Check x2) fun r5 => (bif (!decide (r5 = 0)) then some ((Tm.mk 0 (⟨#[]⟩ : ByteArray) (Ty.mk false (⟨#[]⟩ : ByteArray) []) 0 []), r5) else (classical_MkCond.U3 x1 x2 x3)))
def classical_MkCond.U1 (x1 : Tm) (x2 : Tm) (x3 : Tm) : Option (Tm × Int) := (Option.bind (terms_Check x1) fun r4 => (bif (!decide (r4 = 0)) then some ((Tm.mk 0 (⟨#[]⟩ : ByteArray) (Ty.mk false (⟨#[]⟩ : ByteArray) []) 0 []), r4) else (classical_MkCond.U2 x1 x2 x3)))
def classical_MkCond (x1 : Tm) (x2 : Tm) (x3 : Tm) : Option (Tm × Int) := (classical_MkCond.U1 x1 x2 x3)
theorem classical_MkCond_pc (x1 : Tm) (x2 : Tm) (x3 : Tm) (r : Tm × Int) (hF : classical_MkCond x1 x2 x3 = some r) : PC Go.Proofs.Try.prog 19 [.agg (tmC x1), .agg (tmC x2), .agg (tmC x3)] (.tup [.agg (tmC r.1), .i .i64 r.2]) := by
  obtain ⟨z, hr⟩ : ∃ z, some r = some z := ⟨_, rfl⟩
  refine PC_z Go.Proofs.Try.func19 s19_ok (Nat.le_of_ble_eq_true rfl) fun hf => ?_
  unfold b19 start
  unfold classical_MkCond at hF
  try simp -dsimp (maxDischargeDepth := 6) only [go_sem]
  refine zloop_of (fun m s => (m = 3 ∧ s = ⟨[(3, .ip (tmC x1)), (4, .ip (tmC x2)), (5, .ip (tmC x3)), (6, .ptr 0 0), (22, .sl true 7 [tmC x1, tmC x2, tmC x3]), (23, .i .i64 3), (24, .i .i64 0)], [.box 27 ([.i .u8 0, .s (⟨#[]⟩ : ByteArray), .b false, .s (⟨#[]⟩ : ByteArray), .nils, .i .i64 0, .nils])]⟩ ∧ classical_MkCond.U1 x1 x2 x3 = some r) ∨ (m = 2 ∧ s = ⟨[(3, .ip (tmC x1)), (4, .ip (tmC x2)), (5, .ip (tmC x3)), (6, .ptr 0 0), (22, .sl true 7 [tmC x1, tmC x2, tmC x3]), (23, .i .i64 3), (24, .i .i64 1)], [.box 27 ([.i .u8 0, .s (⟨#[]⟩ : ByteArray), .b false, .s (⟨#[]⟩ : ByteArray), .nils, .i .i64 0, .nils])]⟩ ∧ classical_MkCond.U2 x1 x2 x3 = some r) ∨ (m = 1 ∧ s = ⟨[(3, .ip (tmC x1)), (4, .ip (tmC x2)), (5, .ip (tmC x3)), (6, .ptr 0 0), (22, .sl true 7 [tmC x1, tmC x2, tmC x3]), (23, .i .i64 3), (24, .i .i64 2)], [.box 27 ([.i .u8 0, .s (⟨#[]⟩ : ByteArray), .b false, .s (⟨#[]⟩ : ByteArray), .nils, .i .i64 0, .nils])]⟩ ∧ classical_MkCond.U3 x1 x2 x3 = some r) ∨ (m = 0 ∧ s = ⟨[(3, .ip (tmC x1)), (4, .ip (tmC x2)), (5, .ip (tmC x3)), (6, .ptr 0 0), (22, .sl true 7 [tmC x1, tmC x2, tmC x3]), (23, .i .i64 3), (24, .i .i64 3)], [.box 27 ([.i .u8 0, .s (⟨#[]⟩ : ByteArray), .b false, .s (⟨#[]⟩ : ByteArray), .nils, .i .i64 0, .nils])]⟩ ∧ classical_MkCond.U4 x1 x2 x3 = some r)) 3 ⟨_, (Wks.ok (by simp -dsimp (maxDischargeDepth := 6) only [go_sem])), (Or.inl ⟨rfl, rfl, hF⟩)⟩ ?_
  clear hF
  intro m s hj hfit
  rcases hj with ⟨rfl, rfl, hF⟩ | ⟨rfl, rfl, hF⟩ | ⟨rfl, rfl, hF⟩ | ⟨rfl, rfl, hF⟩
  · skip
    unfold classical_MkCond.U1 at hF
    obtain ⟨r4, h1, hF⟩ := bind_of hF hr
    try simp -dsimp (maxDischargeDepth := 6) only [go_sem]
    refine call_ok (terms_Check_pc x1  _ h1) (by simp -dsimp (maxDischargeDepth := 6) only [go_sem]) ?_
    try simp -dsimp (maxDischargeDepth := 6) only [go_sem]
    refine zif_of (fun h2 => ?_) (fun h2 => ?_)
    · skip
      replace hF := cond_t h2 hF
      cases hF
      simp -dsimp (maxDischargeDepth := 6) only [go_sem, h2]
    · skip
      replace hF := cond_f h2 hF
      try simp -dsimp (maxDischargeDepth := 6) only [go_sem, h2]
      exact ⟨2, _, by decide, (Wks.ok (by simp -dsimp (maxDischargeDepth := 6) only [go_sem, h2])), (Or.inr (Or.inl ⟨rfl, rfl, hF⟩))⟩
  · skip
    unfold classical_MkCond.U2 at hF
    obtain ⟨r5, h3, hF⟩ := bind_of hF hr
    try simp -dsimp (maxDischargeDepth := 6) only [go_sem]
    refine call_ok (terms_Check_pc x2  _ h3) (by simp -dsimp (maxDischargeDepth := 6) only [go_sem]) ?_
    try simp -dsimp (maxDischargeDepth := 6) only [go_sem]
    refine zif_of (fun h4 => ?_) (fun h4 => ?_)
    · skip
      replace hF := cond_t h4 hF
      cases hF
      simp -dsimp (maxDischargeDepth := 6) only [go_sem, h4]
    · skip
      replace hF := cond_f h4 hF
      try simp -dsimp (maxDischargeDepth := 6) only [go_sem, h4]
      exact ⟨1, _, by decide, (Wks.ok (by simp -dsimp (maxDischargeDepth := 6) only [go_sem, h4])), (Or.inr (Or.inr (Or.inl ⟨rfl, rfl, hF⟩)))⟩
  · skip
    unfold classical_MkCond.U3 at hF
    obtain ⟨r6, h5, hF⟩ := bind_of hF hr
    try simp -dsimp (maxDischargeDepth := 6) only [go_sem]
    refine call_ok (terms_Check_pc x3  _ h5) (by simp -dsimp (maxDischargeDepth := 6) only [go_sem]) ?_
    try simp -dsimp (maxDischargeDepth := 6) only [go_sem]
    refine zif_of (fun h6 => ?_) (fun h6 => ?_)
    · skip
      replace hF := cond_t h6 hF
      cases hF
      simp -dsimp (maxDischargeDepth := 6) only [go_sem, h6]
    · skip
      replace hF := cond_f h6 hF
      try simp -dsimp (maxDischargeDepth := 6) only [go_sem, h6]
      exact ⟨0, _, by decide, (Wks.ok (by simp -dsimp (maxDischargeDepth := 6) only [go_sem, h6])), (Or.inr (Or.inr (Or.inr ⟨rfl, rfl, hF⟩)))⟩
  · skip
    unfold classical_MkCond.U4 at hF
    obtain ⟨r7, h7, hF⟩ := bind_of hF hr
    try simp -dsimp (maxDischargeDepth := 6) only [go_sem]
    refine call_ok (terms_TypeOf_pc x2  _ h7) (by simp -dsimp (maxDischargeDepth := 6) only [go_sem]) ?_
    obtain ⟨r8, h8, hF⟩ := bind_of hF hr
    try simp -dsimp (maxDischargeDepth := 6) only [go_sem]
    refine call_ok (terms_TypeOf_pc x3  _ h8) (by simp -dsimp (maxDischargeDepth := 6) only [go_sem]) ?_
    try simp -dsimp (maxDischargeDepth := 6) only [go_sem]
    refine zcut_of (fun s => ∃ (x10 : Bool), s = ⟨[(3, .ip (tmC x1)), (4, .ip (tmC x2)), (5, .ip (tmC x3)), (6, .ptr 0 0), (11, .ptr 1 0), (53, .b x10)], [.box 27 ([.i .u8 0, .s (⟨#[]⟩ : ByteArray), .b false, .s (⟨#[]⟩ : ByteArray), .nils, .i .i64 0, .nils]), .box 24 (tyC r7.1)]⟩ ∧ classical_MkCond.J5 x1 x2 x3 x10 r7 = some r) ?_ ?_
    · skip
      obtain ⟨r9, h10, hF⟩ := bind_of hF hr
      try simp -dsimp (maxDischargeDepth := 6) only [go_sem]
      refine call_ok (prove_Formula_pc x1  _ h10) (by simp -dsimp (maxDischargeDepth := 6) only [go_sem]) ?_
      try simp -dsimp (maxDischargeDepth := 6) only [go_sem]
      refine zif_of (fun h11 => ?_) (fun h11 => ?_)
      · skip
        replace hF := cond_t h11 hF
        try simp -dsimp (maxDischargeDepth := 6) only [go_sem, h11]
        exact ⟨_, (Wks.ok (by simp -dsimp (maxDischargeDepth := 6) only [go_sem, h11])), true, rfl, hF⟩
      · skip
        replace hF := cond_f h11 hF
        try simp -dsimp (maxDischargeDepth := 6) only [go_sem, h11]
        refine call_ok (types_Same_pc r7.1 r8.1 ) (by simp -dsimp (maxDischargeDepth := 6) only [go_sem, h11]) ?_
        try simp -dsimp (maxDischargeDepth := 6) only [go_sem, h11]
        exact ⟨_, (Wks.ok (by simp -dsimp (maxDischargeDepth := 6) only [go_sem, h11])), (!(types_Same r7.1 r8.1)), rfl, hF⟩
    clear hF
    rintro _ ⟨x10, rfl, hF⟩ hfit
    unfold classical_MkCond.J5 at hF
    try simp -dsimp (maxDischargeDepth := 6) only [go_sem]
    refine zif_of (fun h12 => ?_) (fun h12 => ?_)
    · skip
      replace hF := cond_t h12 hF
      cases hF
      simp -dsimp (maxDischargeDepth := 6) only [go_sem, h12]
    · skip
      replace hF := cond_f h12 hF
      obtain ⟨r11, h13, hF⟩ := lt_of hF
      try simp -dsimp (maxDischargeDepth := 6) only [go_sem, h12]
      have hp := (prove_Bool_pc  )
      rw [h13] at hp
      refine call_ok hp (by simp -dsimp (maxDischargeDepth := 6) only [go_sem, h12]) ?_
      clear hp
      obtain ⟨r12, h14, hF⟩ := lt_of hF
      try simp -dsimp (maxDischargeDepth := 6) only [go_sem, h12]
      have hp := (types_Fun_pc r7.1 r7.1 )
      rw [h14] at hp
      refine call_ok hp (by simp -dsimp (maxDischargeDepth := 6) only [go_sem, h12]) ?_
      clear hp
      obtain ⟨r13, h15, hF⟩ := lt_of hF
      try simp -dsimp (maxDischargeDepth := 6) only [go_sem, h12]
      have hp := (types_Fun_pc r7.1 r12 )
      rw [h15] at hp
      refine call_ok hp (by simp -dsimp (maxDischargeDepth := 6) only [go_sem, h12]) ?_
      clear hp
      obtain ⟨r14, h16, hF⟩ := lt_of hF
      try simp -dsimp (maxDischargeDepth := 6) only [go_sem, h12]
      have hp := (types_Fun_pc r11 r13 )
      rw [h16] at hp
      refine call_ok hp (by simp -dsimp (maxDischargeDepth := 6) only [go_sem, h12]) ?_
      clear hp
      try simp -dsimp (maxDischargeDepth := 6) only [go_sem, h12]
      refine zloop_of (fun m s => (m = 3 ∧ s = ⟨[(6, .ptr 0 0), (15, .ptr 2 0), (66, .sl true 7 [tmC x1, tmC x2, tmC x3]), (67, .i .i64 3), (68, .i .i64 0)], [.box 27 ([.i .u8 0, .s (⟨#[]⟩ : ByteArray), .b false, .s (⟨#[]⟩ : ByteArray), .nils, .i .i64 0, .nils]), .gone, .box 27 ([.i .u8 2, .s (⟨#[67, 79, 78, 68]⟩ : ByteArray), .b r14.v, .s r14.n, .sl false 3 (List.map tyC r14.a), .i .i64 0, .nils])]⟩ ∧ classical_MkCond.U6 x1 x2 x3 r14 = some r) ∨ (m = 2 ∧ s = ⟨[(6, .ptr 0 0), (15, .ptr 2 0), (66, .sl true 7 [tmC x1, tmC x2, tmC x3]), (67, .i .i64 3), (68, .i .i64 1)], [.box 27 ([.i .u8 0, .s (⟨#[]⟩ : ByteArray), .b false, .s (⟨#[]⟩ : ByteArray), .nils, .i .i64 0, .nils]), .gone, .box 27 ([.i .u8 4, .s (⟨#[]⟩ : ByteArray), .b false, .s (⟨#[]⟩ : ByteArray), .nils, .i .i64 0, .sl true 7 [[.i .u8 2, .s (⟨#[67, 79, 78, 68]⟩ : ByteArray), .b r14.v, .s r14.n, .sl false 3 (List.map tyC r14.a), .i .i64 0, .nils], tmC x1]])]⟩ ∧ classical_MkCond.U7 x1 x2 x3 r14 = some r) ∨ (m = 1 ∧ s = ⟨[(6, .ptr 0 0), (15, .ptr 2 0), (66, .sl true 7 [tmC x1, tmC x2, tmC x3]), (67, .i .i64 3), (68, .i .i64 2)], [.box 27 ([.i .u8 0, .s (⟨#[]⟩ : ByteArray), .b false, .s (⟨#[]⟩ : ByteArray), .nils, .i .i64 0, .nils]), .gone, .box 27 ([.i .u8 4, .s (⟨#[]⟩ : ByteArray), .b false, .s (⟨#[]⟩ : ByteArray), .nils, .i .i64 0, .sl true 7 [[.i .u8 4, .s (⟨#[]⟩ : ByteArray), .b false, .s (⟨#[]⟩ : ByteArray), .nils, .i .i64 0, .sl true 7 [[.i .u8 2, .s (⟨#[67, 79, 78, 68]⟩ : ByteArray), .b r14.v, .s r14.n, .sl false 3 (List.map tyC r14.a), .i .i64 0, .nils], tmC x1]], tmC x2]])]⟩ ∧ classical_MkCond.U8 x1 x2 x3 r14 = some r) ∨ (m = 0 ∧ s = ⟨[(6, .ptr 0 0), (15, .ptr 2 0), (66, .sl true 7 [tmC x1, tmC x2, tmC x3]), (67, .i .i64 3), (68, .i .i64 3)], [.box 27 ([.i .u8 0, .s (⟨#[]⟩ : ByteArray), .b false, .s (⟨#[]⟩ : ByteArray), .nils, .i .i64 0, .nils]), .gone, .box 27 ([.i .u8 4, .s (⟨#[]⟩ : ByteArray), .b false, .s (⟨#[]⟩ : ByteArray), .nils, .i .i64 0, .sl true 7 [[.i .u8 4, .s (⟨#[]⟩ : ByteArray), .b false, .s (⟨#[]⟩ : ByteArray), .nils, .i .i64 0, .sl true 7 [[.i .u8 4, .s (⟨#[]⟩ : ByteArray), .b false, .s (⟨#[]⟩ : ByteArray), .nils, .i .i64 0, .sl true 7 [[.i .u8 2, .s (⟨#[67, 79, 78, 68]⟩ : ByteArray), .b r14.v, .s r14.n, .sl false 3 (List.map tyC r14.a), .i .i64 0, .nils], tmC x1]], tmC x2]], tmC x3]])]⟩ ∧ classical_MkCond.U9 x1 x2 x3 r14 = some r)) 3 ⟨_, (Wks.ok (by simp -dsimp (maxDischargeDepth := 6) only [go_sem, h12])), (Or.inl ⟨rfl, rfl, hF⟩)⟩ ?_
      clear hF
      intro m s hj hfit
      rcases hj with ⟨rfl, rfl, hF⟩ | ⟨rfl, rfl, hF⟩ | ⟨rfl, rfl, hF⟩ | ⟨rfl, rfl, hF⟩
      · skip
        unfold classical_MkCond.U6 at hF
        try simp -dsimp (maxDischargeDepth := 6) only [go_sem, h12]
        exact ⟨2, _, by decide, (Wks.ok (by simp -dsimp (maxDischargeDepth := 6) only [go_sem, h12])), (Or.inr (Or.inl ⟨rfl, rfl, hF⟩))⟩
      · skip
        unfold classical_MkCond.U7 at hF
        try simp -dsimp (maxDischargeDepth := 6) only [go_sem, h12]
        exact ⟨1, _, by decide, (Wks.ok (by simp -dsimp (maxDischargeDepth := 6) only [go_sem, h12])), (Or.inr (Or.inr (Or.inl ⟨rfl, rfl, hF⟩)))⟩
      · skip
        unfold classical_MkCond.U8 at hF
        try simp -dsimp (maxDischargeDepth := 6) only [go_sem, h12]
        exact ⟨0, _, by decide, (Wks.ok (by simp -dsimp (maxDischargeDepth := 6) only [go_sem, h12])), (Or.inr (Or.inr (Or.inr ⟨rfl, rfl, hF⟩)))⟩
      · skip
        unfold classical_MkCond.U9 at hF
        obtain ⟨r15, h17, hF⟩ := bind_of hF hr
        try simp -dsimp (maxDischargeDepth := 6) only [go_sem, h12]
        refine call_ok (terms_Check_pc (Tm.mk 4 (⟨#[]⟩ : ByteArray) (Ty.mk false (⟨#[]⟩ : ByteArray) []) 0 [(Tm.mk 4 (⟨#[]⟩ : ByteArray) (Ty.mk false (⟨#[]⟩ : ByteArray) []) 0 [(Tm.mk 4 (⟨#[]⟩ : ByteArray) (Ty.mk false (⟨#[]⟩ : ByteArray) []) 0 [(Tm.mk 2 (⟨#[67, 79, 78, 68]⟩ : ByteArray) r14 0 []), x1]), x2]), x3])  _ h17) (by simp -dsimp (maxDischargeDepth := 6) only [go_sem, h12]) ?_
        try simp -dsimp (maxDischargeDepth := 6) only [go_sem, h12]
        refine zif_of (fun h18 => ?_) (fun h18 => ?_)
        · skip
          replace hF := cond_t h18 hF
          cases hF
          simp -dsimp (maxDischargeDepth := 6) only [go_sem, h12, h18]
        · skip
          replace hF := cond_f h18 hF
          try simp -dsimp (maxDischargeDepth := 6) only [go_sem, h12, h18]
          refine call_ok (twinT_pc (Tm.mk 4 (⟨#[]⟩ : ByteArray) (Ty.mk false (⟨#[]⟩ : ByteArray) []) 0 [(Tm.mk 4 (⟨#[]⟩ : ByteArray) (Ty.mk false (⟨#[]⟩ : ByteArray) []) 0 [(Tm.mk 4 (⟨#[]⟩ : ByteArray) (Ty.mk false (⟨#[]⟩ : ByteArray) []) 0 [(Tm.mk 2 (⟨#[67, 79, 78, 68]⟩ : ByteArray) r14 0 []), x1]), x2]), x3])) (by simp -dsimp (maxDischargeDepth := 6) only [go_sem, h12, h18]) ?_
          cases hF
          simp -dsimp (maxDischargeDepth := 6) only [go_sem, h12, h18]
/-- A conditional term. -/
def condY (u : Ty) : Ty := funY boolY (funY u (funY u u))
def condT (u : Ty) (p x y : Tm) : Tm := appT (appT (appT (constT ⟨#[67, 79, 78, 68]⟩ (condY u)) p) x) y
theorem condT_bk (u : Ty) (p x y : Tm) : bkT (condT u p x y) ≤ 60 + 3 * bkY u + bkT p + bkT x + bkT y := by
  have e1 : (ByteArray.size ⟨#[102, 117, 110]⟩) = 3 := rfl
  have e2 : (ByteArray.size ⟨#[98, 111, 111, 108]⟩) = 4 := rfl
  have e3 : (ByteArray.size ⟨#[]⟩) = 0 := rfl
  have e4 : (ByteArray.size ⟨#[67, 79, 78, 68]⟩) = 4 := rfl
  simp only [condT, condY, appT, constT, funY, boolY, zeroY, bkT, bkTs, bkY, bkYs, e1, e2, e3, e4]
  omega
/-- What the conditional term's constructor returns. -/
def mkC (p x y : Tm) : Tm × Int :=
  if chkT p ≠ 0 then (zeroT, chkT p) else if chkT x ≠ 0 then (zeroT, chkT x) else if chkT y ≠ 0 then (zeroT, chkT y)
  else if isForm p = false ∨ cmpTy ((tyOf x).getD zeroY) ((tyOf y).getD zeroY) ≠ 0 then (zeroT, 20)
  else if chkT (condT ((tyOf x).getD zeroY) p x y) = 0 then (condT ((tyOf x).getD zeroY) p x y, 0) else (zeroT, chkT (condT ((tyOf x).getD zeroY) p x y))
theorem tyOf_bk {t : Tm} {u : Ty} (h : tyOf t = some u) : bkY u ≤ bkT t * 6 := by
  unfold tyOf at h
  split at h
  · have := fm_bk (dpT t) t [] u (Nat.le_refl _) h
    simpa [bkL] using this
  · cases h
theorem MkCond_eq (p x y : Tm) (hp : okT p) (hx : okT x) (hy : okT y) : classical_MkCond p x y = some (mkC p x y) := by
  have bp := hp.2
  have bx := hx.2
  have by' := hy.2
  unfold classical_MkCond classical_MkCond.U1 classical_MkCond.U2 classical_MkCond.U3 classical_MkCond.U4 mkC
  rw [terms_Check_eq p (by omega), terms_Check_eq x (by omega), terms_Check_eq y (by omega), terms_TypeOf_eq x (by omega), terms_TypeOf_eq y (by omega), prove_Formula_eq p (by omega)]
  by_cases h1 : chkT p = 0
  · by_cases h2 : chkT x = 0
    · by_cases h3 : chkT y = 0
      · obtain ⟨u, hu⟩ := Option.isSome_iff_exists.1 ((chk_ty x).1 h2)
        obtain ⟨w, hw⟩ := Option.isSome_iff_exists.1 ((chk_ty y).1 h3)
        have hub := tyOf_bk hu
        have hb := condT_bk u p x y
        have hc := terms_Check_eq (condT u p x y) (by omega)
        simp only [hu, hw, Option.getD_some, h1, h2, h3, Option.bind_some, decide_true, Bool.not_true, cond_false, ne_eq, not_true, if_false]
        unfold classical_MkCond.J5 classical_MkCond.U6 classical_MkCond.U7 classical_MkCond.U8 classical_MkCond.U9
        simp only [lt_eq, prove_Bool_eq, types_Fun_eq, types_Same]
        have e : Tm.mk 4 ⟨#[]⟩ (Ty.mk false ⟨#[]⟩ []) 0 [Tm.mk 4 ⟨#[]⟩ (Ty.mk false ⟨#[]⟩ []) 0 [Tm.mk 4 ⟨#[]⟩ (Ty.mk false ⟨#[]⟩ []) 0 [Tm.mk 2 ⟨#[67, 79, 78, 68]⟩ (funY boolY (funY u (funY u u))) 0 [], p], x], y] = condT u p x y := rfl
        rw [e, hc]
        by_cases h4 : cmpTy u w = 0 <;> by_cases h5 : chkT (condT u p x y) = 0 <;> cases h6 : isForm p <;> simp [h4, h5, zeroT, zeroY]
      · simp [h1, h2, h3, zeroT, zeroY]
    · simp [h1, h2, zeroT, zeroY]
  · simp [h1, zeroT, zeroY]
/-- sequent/sequentref11.choice -/
def b84 : SCode :=
  (.seq (.ops [.op (some 1) (.bx (.t 0)),
      .op (some 2) (.alm 27 zTm)])
  (.seq (.draw [.op (some 3) (.ldi (.t 1) 3 true),
      .call (some 4) (.c (.fn (.func 74) [] [])) [],
      .call (some 5) (.c (.fn (.func 89) [] [])) [(.t 3), (.t 4)],
      .op (some 6) (.ldi (.t 1) 3 true),
      .call (some 7) (.c (.fn (.func 89) [] [])) [(.t 5), (.t 6)],
      .call (some 8) (.c (.fn (.func 76) [] [])) [(.c (.s { data := #[64] })), (.t 7)],
      .op none (.st (.t 2) 7 (.t 8))])
  .ret))
theorem s84_ok : fnOk Go.Proofs.Try.prog Go.Proofs.Try.f84 ⟨9, [.c 2 7 true], b84⟩ = true := by kernel_rfl
def ref11_choice (t1 : Ty) : Tm := (lt (ref01_Bool) fun r2 => (lt (ref01_Fun t1 r2) fun r3 => (lt (ref01_Fun r3 t1) fun r4 => (lt (ref09_Constant (⟨#[64]⟩ : ByteArray) r4) fun r5 => r5))))
theorem ref11_choice_pc (t1 : Ty) : PC Go.Proofs.Try.prog 84 [.agg (tyC t1)] (.agg (tmC (ref11_choice t1))) := by
  obtain ⟨r, hF⟩ : ∃ r, ref11_choice t1 = r := ⟨_, rfl⟩
  rw [hF]
  refine PC_z Go.Proofs.Try.func84 s84_ok (Nat.le_of_ble_eq_true rfl) fun hf => ?_
  unfold b84 start
  unfold ref11_choice at hF
  obtain ⟨r2, h1, hF⟩ := lt_of hF
  try simp -dsimp (maxDischargeDepth := 6) only [go_sem]
  have hp := (ref01_Bool_pc  )
  rw [h1] at hp
  refine call_ok hp (by simp -dsimp (maxDischargeDepth := 6) only [go_sem]) ?_
  clear hp
  obtain ⟨r3, h2, hF⟩ := lt_of hF
  try simp -dsimp (maxDischargeDepth := 6) only [go_sem]
  have hp := (ref01_Fun_pc t1 r2 )
  rw [h2] at hp
  refine call_ok hp (by simp -dsimp (maxDischargeDepth := 6) only [go_sem]) ?_
  clear hp
  obtain ⟨r4, h3, hF⟩ := lt_of hF
  try simp -dsimp (maxDischargeDepth := 6) only [go_sem]
  have hp := (ref01_Fun_pc r3 t1 )
  rw [h3] at hp
  refine call_ok hp (by simp -dsimp (maxDischargeDepth := 6) only [go_sem]) ?_
  clear hp
  obtain ⟨r5, h4, hF⟩ := lt_of hF
  try simp -dsimp (maxDischargeDepth := 6) only [go_sem]
  have hp := (ref09_Constant_pc (⟨#[64]⟩ : ByteArray) r4 )
  rw [h4] at hp
  refine call_ok hp (by simp -dsimp (maxDischargeDepth := 6) only [go_sem]) ?_
  clear hp
  subst hF
  simp -dsimp (maxDischargeDepth := 6) only [go_sem]
/-- sequent/sequentref11.Chosen -/
def b47 : SCode :=
  (.seq (.ops [.op (some 1) (.bx (.t 0)),
      .op (some 2) (.alm 27 zTm)])
  (.seq (.draw [.op (some 3) (.fa (.t 1) 2),
      .op (some 4) (.ldi (.t 3) 3 true),
      .call (some 5) (.c (.fn (.func 84) [] [])) [(.t 4)],
      .op (some 6) (.ldi (.t 1) 7 true),
      .call (some 7) (.c (.fn (.func 75) [] [])) [(.t 5), (.t 6)],
      .op none (.st (.t 2) 7 (.t 7))])
  .ret))
theorem s47_ok : fnOk Go.Proofs.Try.prog Go.Proofs.Try.f47 ⟨8, [.c 2 7 true], b47⟩ = true := by kernel_rfl
def ref11_Chosen (abs1 : Tm) : Tm := (lt (ref11_choice abs1.y) fun r2 => (lt (ref02_App r2 abs1) fun r3 => r3))
theorem ref11_Chosen_pc (abs1 : Tm) : PC Go.Proofs.Try.prog 47 [.agg (tmC abs1)] (.agg (tmC (ref11_Chosen abs1))) := by
  obtain ⟨r, hF⟩ : ∃ r, ref11_Chosen abs1 = r := ⟨_, rfl⟩
  rw [hF]
  refine PC_z Go.Proofs.Try.func47 s47_ok (Nat.le_of_ble_eq_true rfl) fun hf => ?_
  unfold b47 start
  unfold ref11_Chosen at hF
  obtain ⟨r2, h1, hF⟩ := lt_of hF
  try simp -dsimp (maxDischargeDepth := 6) only [go_sem]
  have hp := (ref11_choice_pc abs1.y )
  rw [h1] at hp
  refine call_ok hp (by simp -dsimp (maxDischargeDepth := 6) only [go_sem]) ?_
  clear hp
  obtain ⟨r3, h2, hF⟩ := lt_of hF
  try simp -dsimp (maxDischargeDepth := 6) only [go_sem]
  have hp := (ref02_App_pc r2 abs1 )
  rw [h2] at hp
  refine call_ok hp (by simp -dsimp (maxDischargeDepth := 6) only [go_sem]) ?_
  clear hp
  subst hF
  simp -dsimp (maxDischargeDepth := 6) only [go_sem]
/-- sequent/sequentref11.MkSelect -/
def b18 : SCode :=
  (.seq (.ops [.op (some 2) (.bx (.t 0)),
      .op (some 3) (.bx (.t 1)),
      .op (some 4) (.alm 27 zTm),
      .op (some 5) (.mv (.c (.i .i64 0)))])
  (.seq (.ops [.op (some 9) (.ld (.t 2) 7 true),
      .op (some 10) (.ld (.t 3) 7 true),
      .op (some 11) (.bsl 7 [(.t 9), (.t 10)]),
      .call (some 12) (.c (.fn (.func 37) [] [])) [(.t 11)],
      .op (some 6) (.mv (.t 12))])
  (.seq (.seq (.ops [.op (some 13) (.mv (.t 6)),
      .op (some 14) (.bi .neq (.t 13) (.c (.i .i64 0)))])
  (.cond (.t 14) (.seq (.ops [.op (some 15) (.bld zTm []),
        .op (some 16) (.mv (.t 6)),
        .op none (.st (.t 4) 7 (.t 15)),
        .op (some 5) (.mv (.t 16))])
    .ret)
    .skip))
  (.seq (cutS (.ops [.op (some 17) (.fa (.t 2) 0),
      .op (some 18) (.ld (.t 17) 1 false),
      .op (some 19) (.bi .neq (.t 18) (.c (.i .u8 1))),
      .op (some 20) (.mv (.t 19)),
      .gd 20 false (some 21) (.op (some 21) (.ld (.t 3) 7 true)),
      .gd 20 false (some 22) (.call (some 22) (.c (.fn (.func 38) [] [])) [(.t 21)]),
      .gd 20 false (some 23) (.op (some 23) (.un .not (.t 22))),
      .op (some 24) (.pk (.t 20) (.c (.b true)) (.t 23))])
  (.cond (.t 24) (.seq (.ops [.op (some 25) (.bld zTm []),
        .op none (.st (.t 4) 7 (.t 25)),
        .op (some 5) (.mv (.c (.i .i64 20)))])
    .ret)
    .skip))
  (.seq (.ops [.op (some 27) (.ld (.t 2) 7 true),
      .op (some 28) (.ld (.t 3) 7 true),
      .call (some 29) (.c (.fn (.func 48) [] [])) [(.t 27), (.t 28)],
      .call (some 30) (.c (.fn (.func 47) [] [])) [(.t 29)],
      .call (some 31) (.c (.fn (.func 39) [] [])) [(.t 30)],
      .op (some 26) (.mv (.t 31)),
      .op (some 32) (.ext (.t 26) 0),
      .op (some 33) (.ext (.t 26) 1),
      .op (some 7) (.alm 27 zTm),
      .op none (.st (.t 7) 7 (.t 32)),
      .op (some 8) (.mv (.t 33))])
  (.seq (.ops [.op (some 34) (.ld (.t 7) 7 true),
      .op (some 35) (.mv (.t 8)),
      .op none (.st (.t 4) 7 (.t 34)),
      .op (some 5) (.mv (.t 35))])
  .ret))))))
theorem s18_ok : fnOk Go.Proofs.Try.prog Go.Proofs.Try.f18 ⟨36, [.c 4 7 true, .t 5], b18⟩ = true := by kernel_rfl
def ref11_MkSelect.J1 (v1 : Tm) (t2 : Tm) (x5 : Bool) : Option (Tm × Int) := (bif x5 then some ((Tm.mk 0 (⟨#[]⟩ : ByteArray) (Ty.mk false (⟨#[]⟩ : ByteArray) []) 0 []), 20) else (Option.bind (ref02_Abs v1 t2) fun r6 => (lt (ref11_Chosen r6) fun r7 => (Option.bind (ref02_Done r7) fun r8 => some (r8.1, r8.2)))))
def ref11_MkSelect (v1 : Tm) (t2 : Tm) : Option (Tm × Int) := (Option.bind (ref02_Checks [v1, t2]) fun r3 => (bif (!decide (r3 = 0)) then some ((Tm.mk 0 (⟨#[]⟩ : ByteArray) (Ty.mk false (⟨#[]⟩ : ByteArray) []) 0 []), r3) else (bif (!decide (v1.k = 1)) then (ref11_MkSelect.J1 v1 t2 true) else (Option.bind (ref09_Formula t2) fun r4 => (ref11_MkSelect.J1 v1 t2 (!r4))))))
theorem ref11_MkSelect_pc (v1 : Tm) (t2 : Tm) (r : Tm × Int) (hF : ref11_MkSelect v1 t2 = some r) : PC Go.Proofs.Try.prog 18 [.agg (tmC v1), .agg (tmC t2)] (.tup [.agg (tmC r.1), .i .i64 r.2]) := by
  obtain ⟨z, hr⟩ : ∃ z, some r = some z := ⟨_, rfl⟩
  refine PC_z Go.Proofs.Try.func18 s18_ok (Nat.le_of_ble_eq_true rfl) fun hf => ?_
  unfold b18 start
  unfold ref11_MkSelect at hF
  obtain ⟨r3, h1, hF⟩ := bind_of hF hr
  try simp -dsimp (maxDischargeDepth := 6) only [go_sem]
  refine call_ok (ref02_Checks_pc [v1, t2]  _ h1) (by simp -dsimp (maxDischargeDepth := 6) only [go_sem]) ?_
  try simp -dsimp (maxDischargeDepth := 6) only [go_sem]
  refine zif_of (fun h2 => ?_) (fun h2 => ?_)
  · skip
    replace hF := cond_t h2 hF
    cases hF
    simp -dsimp (maxDischargeDepth := 6) only [go_sem, h2]
  · skip
    replace hF := cond_f h2 hF
    try simp -dsimp (maxDischargeDepth := 6) only [go_sem, h2]
    refine zcut_of (fun s => ∃ (x5 : Bool), s = ⟨[(2, .ip (tmC v1)), (3, .ip (tmC t2)), (4, .ptr 0 0), (24, .b x5)], [.box 27 ([.i .u8 0, .s (⟨#[]⟩ : ByteArray), .b false, .s (⟨#[]⟩ : ByteArray), .nils, .i .i64 0, .nils])]⟩ ∧ ref11_MkSelect.J1 v1 t2 x5 = some r) ?_ ?_
    · skip
      try simp -dsimp (maxDischargeDepth := 6) only [go_sem, h2]
      refine zif_of (fun h4 => ?_) (fun h4 => ?_)
      · skip
        replace hF := cond_t h4 hF
        try simp -dsimp (maxDischargeDepth := 6) only [go_sem, h2, h4]
        exact ⟨_, (Wks.ok (by simp -dsimp (maxDischargeDepth := 6) only [go_sem, h2, h4])), true, rfl, hF⟩
      · skip
        replace hF := cond_f h4 hF
        obtain ⟨r4, h5, hF⟩ := bind_of hF hr
        try simp -dsimp (maxDischargeDepth := 6) only [go_sem, h2, h4]
        refine call_ok (ref09_Formula_pc t2  _ h5) (by simp -dsimp (maxDischargeDepth := 6) only [go_sem, h2, h4]) ?_
        try simp -dsimp (maxDischargeDepth := 6) only [go_sem, h2, h4]
        exact ⟨_, (Wks.ok (by simp -dsimp (maxDischargeDepth := 6) only [go_sem, h2, h4])), (!r4), rfl, hF⟩
    clear hF
    rintro _ ⟨x5, rfl, hF⟩ hfit
    unfold ref11_MkSelect.J1 at hF
    try simp -dsimp (maxDischargeDepth := 6) only [go_sem, h2]
    refine zif_of (fun h6 => ?_) (fun h6 => ?_)
    · skip
      replace hF := cond_t h6 hF
      cases hF
      simp -dsimp (maxDischargeDepth := 6) only [go_sem, h2, h6]
    · skip
      replace hF := cond_f h6 hF
      obtain ⟨r6, h7, hF⟩ := bind_of hF hr
      try simp -dsimp (maxDischargeDepth := 6) only [go_sem, h2, h6]
      refine call_ok (ref02_Abs_pc v1 t2  _ h7) (by simp -dsimp (maxDischargeDepth := 6) only [go_sem, h2, h6]) ?_
      obtain ⟨r7, h8, hF⟩ := lt_of hF
      try simp -dsimp (maxDischargeDepth := 6) only [go_sem, h2, h6]
      have hp := (ref11_Chosen_pc r6 )
      rw [h8] at hp
      refine call_ok hp (by simp -dsimp (maxDischargeDepth := 6) only [go_sem, h2, h6]) ?_
      clear hp
      obtain ⟨r8, h9, hF⟩ := bind_of hF hr
      try simp -dsimp (maxDischargeDepth := 6) only [go_sem, h2, h6]
      refine call_ok (ref02_Done_pc r7  _ h9) (by simp -dsimp (maxDischargeDepth := 6) only [go_sem, h2, h6]) ?_
      cases hF
      simp -dsimp (maxDischargeDepth := 6) only [go_sem, h2, h6]
theorem ref11_MkSelect_eq (v t : Tm) (hv : okT v) (ht : okT t) : ref11_MkSelect v t = some (mkS v t) := by
  have hb := selT_bk v t
  have e1 := ref02_Done_eq (selT v t) (by have := hv.2; have := ht.2; omega)
  have e2 : ref02_Abs v t = some (absT v t) := by
    unfold ref02_Abs bindO
    rw [og_pos (okT_bind ht)]
    rfl
  have e3 : ref11_Chosen (absT v t) = selT v t := rfl
  unfold ref11_MkSelect ref11_MkSelect.J1 mkS
  rw [ref02_Checks_eq _ (by intro x hx; have := hv.2; have := ht.2; simp at hx; rcases hx with rfl | rfl <;> omega), e2]
  simp only [Option.bind_some, lt_eq, e3, e1, chkTs]
  by_cases h1 : chkT v = 0
  · by_cases h2 : chkT t = 0
    · rw [ref09_Formula_eq t (by have := ht.2; omega) h2]
      by_cases h3 : v.k = 1
      · by_cases h4 : chkT (selT v t) = 0 <;> cases h5 : isForm t <;> simp [h1, h2, h3, h4, zeroT, zeroY]
      · simp [h1, h2, h3, zeroT, zeroY]
    · simp [h1, h2, zeroT, zeroY]
  · simp [h1, zeroT, zeroY]
/-- sequent/sequentref11.Cond -/
def b55 : SCode :=
  (.seq (.ops [.op (some 3) (.bx (.t 0)),
      .op (some 4) (.bx (.t 1)),
      .op (some 5) (.bx (.t 2)),
      .op (some 6) (.alm 27 zTm)])
  (.seq (.ops [.op (some 9) (.ld (.t 4) 7 true),
      .call (some 10) (.c (.fn (.func 54) [] [])) [(.t 9)],
      .op (some 7) (.alm 24 zTy),
      .op none (.st (.t 7) 3 (.t 10))])
  (.seq (.draw [.call (some 11) (.c (.fn (.func 74) [] [])) [],
      .op (some 12) (.ld (.t 7) 3 true),
      .op (some 13) (.ld (.t 7) 3 true),
      .op (some 14) (.ld (.t 7) 3 true),
      .call (some 15) (.c (.fn (.func 89) [] [])) [(.t 13), (.t 14)],
      .call (some 16) (.c (.fn (.func 89) [] [])) [(.t 12), (.t 15)],
      .call (some 17) (.c (.fn (.func 89) [] [])) [(.t 11), (.t 16)],
      .call (some 18) (.c (.fn (.func 76) [] [])) [(.c (.s { data := #[67, 79, 78, 68] })), (.t 17)],
      .op (some 8) (.alm 27 zTm),
      .op none (.st (.t 8) 7 (.t 18))])
  (.seq (.draw [.op (some 19) (.ld (.t 8) 7 true),
      .op (some 20) (.ldi (.t 3) 7 true),
      .call (some 21) (.c (.fn (.func 75) [] [])) [(.t 19), (.t 20)],
      .op (some 22) (.ldi (.t 4) 7 true),
      .call (some 23) (.c (.fn (.func 75) [] [])) [(.t 21), (.t 22)],
      .op (some 24) (.ldi (.t 5) 7 true),
      .call (some 25) (.c (.fn (.func 75) [] [])) [(.t 23), (.t 24)],
      .op none (.st (.t 6) 7 (.t 25))])
  .ret))))
theorem s55_ok : fnOk Go.Proofs.Try.prog Go.Proofs.Try.f55 ⟨26, [.c 6 7 true], b55⟩ = true := by kernel_rfl
def ref11_Cond (p1 : Tm) (x2 : Tm) (y3 : Tm) : Option (Tm) := (Option.bind (ref02_Type x2) fun r4 => (lt (ref01_Bool) fun r5 => (lt (ref01_Fun r4 r4) fun r6 => (lt (ref01_Fun r4 r6) fun r7 => (lt (ref01_Fun r5 r7) fun r8 => (lt (ref09_Constant (⟨#[67, 79, 78, 68]⟩ : ByteArray) r8) fun r9 => (lt (ref02_App r9 p1) fun r10 => (lt (ref02_App r10 x2) fun r11 => (lt (ref02_App r11 y3) fun r12 => some r12)))))))))
theorem ref11_Cond_pc (p1 : Tm) (x2 : Tm) (y3 : Tm) (r : Tm) (hF : ref11_Cond p1 x2 y3 = some r) : PC Go.Proofs.Try.prog 55 [.agg (tmC p1), .agg (tmC x2), .agg (tmC y3)] (.agg (tmC r)) := by
  obtain ⟨z, hr⟩ : ∃ z, some r = some z := ⟨_, rfl⟩
  refine PC_z Go.Proofs.Try.func55 s55_ok (Nat.le_of_ble_eq_true rfl) fun hf => ?_
  unfold b55 start
  unfold ref11_Cond at hF
  obtain ⟨r4, h1, hF⟩ := bind_of hF hr
  try simp -dsimp (maxDischargeDepth := 6) only [go_sem]
  refine call_ok (ref02_Type_pc x2  _ h1) (by simp -dsimp (maxDischargeDepth := 6) only [go_sem]) ?_
  obtain ⟨r5, h2, hF⟩ := lt_of hF
  try simp -dsimp (maxDischargeDepth := 6) only [go_sem]
  have hp := (ref01_Bool_pc  )
  rw [h2] at hp
  refine call_ok hp (by simp -dsimp (maxDischargeDepth := 6) only [go_sem]) ?_
  clear hp
  obtain ⟨r6, h3, hF⟩ := lt_of hF
  try simp -dsimp (maxDischargeDepth := 6) only [go_sem]
  have hp := (ref01_Fun_pc r4 r4 )
  rw [h3] at hp
  refine call_ok hp (by simp -dsimp (maxDischargeDepth := 6) only [go_sem]) ?_
  clear hp
  obtain ⟨r7, h4, hF⟩ := lt_of hF
  try simp -dsimp (maxDischargeDepth := 6) only [go_sem]
  have hp := (ref01_Fun_pc r4 r6 )
  rw [h4] at hp
  refine call_ok hp (by simp -dsimp (maxDischargeDepth := 6) only [go_sem]) ?_
  clear hp
  obtain ⟨r8, h5, hF⟩ := lt_of hF
  try simp -dsimp (maxDischargeDepth := 6) only [go_sem]
  have hp := (ref01_Fun_pc r5 r7 )
  rw [h5] at hp
  refine call_ok hp (by simp -dsimp (maxDischargeDepth := 6) only [go_sem]) ?_
  clear hp
  obtain ⟨r9, h6, hF⟩ := lt_of hF
  try simp -dsimp (maxDischargeDepth := 6) only [go_sem]
  have hp := (ref09_Constant_pc (⟨#[67, 79, 78, 68]⟩ : ByteArray) r8 )
  rw [h6] at hp
  refine call_ok hp (by simp -dsimp (maxDischargeDepth := 6) only [go_sem]) ?_
  clear hp
  obtain ⟨r10, h7, hF⟩ := lt_of hF
  try simp -dsimp (maxDischargeDepth := 6) only [go_sem]
  have hp := (ref02_App_pc r9 p1 )
  rw [h7] at hp
  refine call_ok hp (by simp -dsimp (maxDischargeDepth := 6) only [go_sem]) ?_
  clear hp
  obtain ⟨r11, h8, hF⟩ := lt_of hF
  try simp -dsimp (maxDischargeDepth := 6) only [go_sem]
  have hp := (ref02_App_pc r10 x2 )
  rw [h8] at hp
  refine call_ok hp (by simp -dsimp (maxDischargeDepth := 6) only [go_sem]) ?_
  clear hp
  obtain ⟨r12, h9, hF⟩ := lt_of hF
  try simp -dsimp (maxDischargeDepth := 6) only [go_sem]
  have hp := (ref02_App_pc r11 y3 )
  rw [h9] at hp
  refine call_ok hp (by simp -dsimp (maxDischargeDepth := 6) only [go_sem]) ?_
  clear hp
  cases hF
  simp -dsimp (maxDischargeDepth := 6) only [go_sem]
/-- sequent/sequentref11.MkCond -/
def b20 : SCode :=
  (.seq (.ops [.op (some 3) (.bx (.t 0)),
      .op (some 4) (.bx (.t 1)),
      .op (some 5) (.bx (.t 2)),
      .op (some 6) (.alm 27 zTm),
      .op (some 7) (.mv (.c (.i .i64 0)))])
  (.seq (.ops [.op (some 11) (.ld (.t 3) 7 true),
      .op (some 12) (.ld (.t 4) 7 true),
      .op (some 13) (.ld (.t 5) 7 true),
      .op (some 14) (.bsl 7 [(.t 11), (.t 12), (.t 13)]),
      .call (some 15) (.c (.fn (.func 37) [] [])) [(.t 14)],
      .op (some 8) (.mv (.t 15))])
  (.seq (.seq (.ops [.op (some 16) (.mv (.t 8)),
      .op (some 17) (.bi .neq (.t 16) (.c (.i .i64 0)))])
  (.cond (.t 17) (.seq (.ops [.op (some 18) (.bld zTm []),
        .op (some 19) (.mv (.t 8)),
        .op none (.st (.t 6) 7 (.t 18)),
        .op (some 7) (.mv (.t 19))])
    .ret)
    .skip))
  (.seq (cutS (.draw [.op (some 20) (.ldi (.t 3) 7 true),
      .call (some 21) (.c (.fn (.func 38) [] [])) [(.t 20)],
      .op (some 22) (.un .not (.t 21)),
      .op (some 23) (.mv (.t 22)),
      .gd 23 false (some 24) (.op (some 24) (.ldi (.t 4) 7 true)),
      .gd 23 false (some 25) (.call (some 25) (.c (.fn (.func 54) [] [])) [(.t 24)]),
      .gd 23 false (some 26) (.op (some 26) (.ldi (.t 5) 7 true)),
      .gd 23 false (some 27) (.call (some 27) (.c (.fn (.func 54) [] [])) [(.t 26)]),
      .gd 23 false (some 28) (.call (some 28) (.c (.fn (.func 53) [] [])) [(.t 25), (.t 27)]),
      .gd 23 false (some 29) (.op (some 29) (.un .not (.t 28))),
      .op (some 30) (.pk (.t 23) (.c (.b true)) (.t 29))])
  (.cond (.t 30) (.seq (.ops [.op (some 31) (.bld zTm []),
        .op none (.st (.t 6) 7 (.t 31)),
        .op (some 7) (.mv (.c (.i .i64 20)))])
    .ret)
    .skip))
  (.seq (.ops [.op (some 33) (.ld (.t 3) 7 true),
      .op (some 34) (.ld (.t 4) 7 true),
      .op (some 35) (.ld (.t 5) 7 true),
      .call (some 36) (.c (.fn (.func 55) [] [])) [(.t 33), (.t 34), (.t 35)],
      .call (some 37) (.c (.fn (.func 39) [] [])) [(.t 36)],
      .op (some 32) (.mv (.t 37)),
      .op (some 38) (.ext (.t 32) 0),
      .op (some 39) (.ext (.t 32) 1),
      .op (some 9) (.alm 27 zTm),
      .op none (.st (.t 9) 7 (.t 38)),
      .op (some 10) (.mv (.t 39))])
  (.seq (.ops [.op (some 40) (.ld (.t 9) 7 true),
      .op (some 41) (.mv (.t 10)),
      .op none (.st (.t 6) 7 (.t 40)),
      .op (some 7) (.mv (.t 41))])
  .ret))))))
theorem s20_ok : fnOk Go.Proofs.Try.prog Go.Proofs.Try.f20 ⟨42, [.c 6 7 true, .t 7], b20⟩ = true := by kernel_rfl
def ref11_MkCond.J1 (p1 : Tm) (x2 : Tm) (y3 : Tm) (x8 : Bool) : Option (Tm × Int) := (bif x8 then some ((Tm.mk 0 (⟨#[]⟩ : ByteArray) (Ty.mk false (⟨#[]⟩ : ByteArray) []) 0 []), 20) else (Option.bind (ref11_Cond p1 x2 y3) fun r9 => (Option.bind (ref02_Done r9) fun r10 => some (r10.1, r10.2))))
def ref11_MkCond (p1 : Tm) (x2 : Tm) (y3 : Tm) : Option (Tm × Int) := (Option.bind (ref02_Checks [p1, x2, y3]) fun r4 => (bif (!decide (r4 = 0)) then some ((Tm.mk 0 (⟨#[]⟩ : ByteArray) (Ty.mk false (⟨#[]⟩ : ByteArray) []) 0 []), r4) else (Option.bind (ref09_Formula p1) fun r5 => (bif (!r5) then (ref11_MkCond.J1 p1 x2 y3 true) else (Option.bind (ref02_Type x2) fun r6 => (Option.bind (ref02_Type y3) fun r7 => (ref11_MkCond.J1 p1 x2 y3 (!(ref01_Same r6 r7)))))))))
theorem ref11_MkCond_pc (p1 : Tm) (x2 : Tm) (y3 : Tm) (r : Tm × Int) (hF : ref11_MkCond p1 x2 y3 = some r) : PC Go.Proofs.Try.prog 20 [.agg (tmC p1), .agg (tmC x2), .agg (tmC y3)] (.tup [.agg (tmC r.1), .i .i64 r.2]) := by
  obtain ⟨z, hr⟩ : ∃ z, some r = some z := ⟨_, rfl⟩
  refine PC_z Go.Proofs.Try.func20 s20_ok (Nat.le_of_ble_eq_true rfl) fun hf => ?_
  unfold b20 start
  unfold ref11_MkCond at hF
  obtain ⟨r4, h1, hF⟩ := bind_of hF hr
  try simp -dsimp (maxDischargeDepth := 6) only [go_sem]
  refine call_ok (ref02_Checks_pc [p1, x2, y3]  _ h1) (by simp -dsimp (maxDischargeDepth := 6) only [go_sem]) ?_
  try simp -dsimp (maxDischargeDepth := 6) only [go_sem]
  refine zif_of (fun h2 => ?_) (fun h2 => ?_)
  · skip
    replace hF := cond_t h2 hF
    cases hF
    simp -dsimp (maxDischargeDepth := 6) only [go_sem, h2]
  · skip
    replace hF := cond_f h2 hF
    try simp -dsimp (maxDischargeDepth := 6) only [go_sem, h2]
    refine zcut_of (fun s => ∃ (x8 : Bool), s = ⟨[(3, .ip (tmC p1)), (4, .ip (tmC x2)), (5, .ip (tmC y3)), (6, .ptr 0 0), (30, .b x8)], [.box 27 ([.i .u8 0, .s (⟨#[]⟩ : ByteArray), .b false, .s (⟨#[]⟩ : ByteArray), .nils, .i .i64 0, .nils])]⟩ ∧ ref11_MkCond.J1 p1 x2 y3 x8 = some r) ?_ ?_
    · skip
      obtain ⟨r5, h4, hF⟩ := bind_of hF hr
      try simp -dsimp (maxDischargeDepth := 6) only [go_sem, h2]
      refine call_ok (ref09_Formula_pc p1  _ h4) (by simp -dsimp (maxDischargeDepth := 6) only [go_sem, h2]) ?_
      try simp -dsimp (maxDischargeDepth := 6) only [go_sem, h2]
      refine zif_of (fun h5 => ?_) (fun h5 => ?_)
      · skip
        replace hF := cond_t h5 hF
        try simp -dsimp (maxDischargeDepth := 6) only [go_sem, h2, h5]
        exact ⟨_, (Wks.ok (by simp -dsimp (maxDischargeDepth := 6) only [go_sem, h2, h5])), true, rfl, hF⟩
      · skip
        replace hF := cond_f h5 hF
        obtain ⟨r6, h6, hF⟩ := bind_of hF hr
        try simp -dsimp (maxDischargeDepth := 6) only [go_sem, h2, h5]
        refine call_ok (ref02_Type_pc x2  _ h6) (by simp -dsimp (maxDischargeDepth := 6) only [go_sem, h2, h5]) ?_
        obtain ⟨r7, h7, hF⟩ := bind_of hF hr
        try simp -dsimp (maxDischargeDepth := 6) only [go_sem, h2, h5]
        refine call_ok (ref02_Type_pc y3  _ h7) (by simp -dsimp (maxDischargeDepth := 6) only [go_sem, h2, h5]) ?_
        try simp -dsimp (maxDischargeDepth := 6) only [go_sem, h2, h5]
        refine call_ok (ref01_Same_pc r6 r7 ) (by simp -dsimp (maxDischargeDepth := 6) only [go_sem, h2, h5]) ?_
        try simp -dsimp (maxDischargeDepth := 6) only [go_sem, h2, h5]
        exact ⟨_, (Wks.ok (by simp -dsimp (maxDischargeDepth := 6) only [go_sem, h2, h5])), (!(ref01_Same r6 r7)), rfl, hF⟩
    clear hF
    rintro _ ⟨x8, rfl, hF⟩ hfit
    unfold ref11_MkCond.J1 at hF
    try simp -dsimp (maxDischargeDepth := 6) only [go_sem, h2]
    refine zif_of (fun h8 => ?_) (fun h8 => ?_)
    · skip
      replace hF := cond_t h8 hF
      cases hF
      simp -dsimp (maxDischargeDepth := 6) only [go_sem, h2, h8]
    · skip
      replace hF := cond_f h8 hF
      obtain ⟨r9, h9, hF⟩ := bind_of hF hr
      try simp -dsimp (maxDischargeDepth := 6) only [go_sem, h2, h8]
      refine call_ok (ref11_Cond_pc p1 x2 y3  _ h9) (by simp -dsimp (maxDischargeDepth := 6) only [go_sem, h2, h8]) ?_
      obtain ⟨r10, h10, hF⟩ := bind_of hF hr
      try simp -dsimp (maxDischargeDepth := 6) only [go_sem, h2, h8]
      refine call_ok (ref02_Done_pc r9  _ h10) (by simp -dsimp (maxDischargeDepth := 6) only [go_sem, h2, h8]) ?_
      cases hF
      simp -dsimp (maxDischargeDepth := 6) only [go_sem, h2, h8]
theorem ref11_MkCond_eq (p x y : Tm) (hp : okT p) (hx : okT x) (hy : okT y) : ref11_MkCond p x y = some (mkC p x y) := by
  have bp := hp.2
  have bx := hx.2
  have by' := hy.2
  unfold ref11_MkCond mkC
  rw [ref02_Checks_eq _ (by intro z hz; simp at hz; rcases hz with rfl | rfl | rfl <;> omega)]
  by_cases h1 : chkT p = 0
  · by_cases h2 : chkT x = 0
    · by_cases h3 : chkT y = 0
      · obtain ⟨u, hu⟩ := Option.isSome_iff_exists.1 ((chk_ty x).1 h2)
        obtain ⟨w, hw⟩ := Option.isSome_iff_exists.1 ((chk_ty y).1 h3)
        have hub := tyOf_bk hu
        have hb := condT_bk u p x y
        have hc := ref02_Done_eq (condT u p x y) (by omega)
        have e : ref11_Cond p x y = some (condT u p x y) := by
          unfold ref11_Cond
          rw [ref02_Type_eq x u (by omega) hu]
          rfl
        unfold ref11_MkCond.J1
        rw [ref09_Formula_eq p (by omega) h1, ref02_Type_eq x u (by omega) hu, ref02_Type_eq y w (by omega) hw, e]
        simp only [chkTs, hu, hw, Option.getD_some, h1, h2, h3, Option.bind_some, decide_true, Bool.not_true, cond_false, ne_eq, not_true, if_false, hc, ref01_Same]
        by_cases h4 : cmpTy u w = 0 <;> by_cases h5 : chkT (condT u p x y) = 0 <;> cases h6 : isForm p <;> simp [h4, h5, zeroT, zeroY]
      · simp [chkTs, h1, h2, h3, zeroT, zeroY]
    · simp [chkTs, h1, h2, zeroT, zeroY]
  · simp [chkTs, h1, zeroT, zeroY]
/-- sequent/sequentlaw11.great -/
def b16 : SCode :=
  (.seq (.ops [.op (some 2) (.mv (.c (.b false)))])
  (.seq (.seq (.ops [.op (some 3) (.mv (.c (.i .i64 0)))])
  (.block 0 (.loop (.seq (.seq (.ops [.op (some 4) (.mv (.t 3)),
      .op (some 5) (.mv (.t 0)),
      .op (some 6) (.len (.t 5)),
      .op (some 7) (.bi .lss (.t 4) (.t 6))])
  (.cond (.t 7) .skip
    (.exit 0)))
  (.seq (.block 1 (.seq (.ops [.op (some 10) (.mv (.t 0)),
      .op (some 11) (.mv (.t 3)),
      .op (some 12) (.ia 7 (.t 10) (.t 11)),
      .op (some 13) (.ld (.t 12) 7 true),
      .call (some 14) (.c (.fn (.func 22) [] [])) [(.t 13)]])
  (.cond (.t 14) (.seq (.ops [.op (some 2) (.mv (.c (.b true)))])
    .ret)
    .skip)))
  (.ops [.op (some 8) (.mv (.t 3)),
      .op (some 9) (.bi .add (.t 8) (.c (.i .i64 1))),
      .op (some 3) (.mv (.t 9))]))))))
  (.seq (.ops [.op (some 2) (.mv (.c (.b false)))])
  .ret)))
theorem s16_ok : fnOk Go.Proofs.Try.prog Go.Proofs.Try.f16 ⟨15, [.t 2], b16⟩ = true := by kernel_rfl
def law11_great.L1 (l1 : (List Tm)) : List Tm → Nat → Option (Bool)
  | [], i4 => some false
  | e5 :: rest, i4 => (Option.bind (ref02_Great e5) fun r6 => (bif r6 then some true else ((law11_great.L1 l1 rest) (i4 + 1))))
def law11_great (l1 : (List Tm)) : Option (Bool) := (law11_great.L1 l1 l1 0)
theorem law11_great_pc (l1 : (List Tm)) (r : Bool) (hF : law11_great l1 = some r) : PC Go.Proofs.Try.prog 16 [.sl false 7 (List.map tmC l1)] (.b r) := by
  obtain ⟨z, hr⟩ : ∃ z, some r = some z := ⟨_, rfl⟩
  refine PC_z Go.Proofs.Try.func16 s16_ok (Nat.le_of_ble_eq_true rfl) fun hf => ?_
  unfold b16 start
  unfold law11_great at hF
  try simp -dsimp (maxDischargeDepth := 6) only [go_sem]
  refine zloop_of (fun m s => ∃ (rest1 : List Tm) (i4 : Nat), List.drop i4 l1 = rest1 ∧ List.length rest1 = m ∧ s = ⟨[(0, .sl false 7 (List.map tmC l1)), (3, .i .i64 (i4 : Int))], []⟩ ∧ law11_great.L1 l1 rest1 i4 = some r) (List.length l1) ⟨_, (Wks.ok (by simp -dsimp (maxDischargeDepth := 6) only [go_sem])), l1, 0, rfl, rfl, rfl, hF⟩ ?_
  clear hF
  rintro _ _ ⟨rest1, i4, hd1, rfl, rfl, hF⟩ hfit
  have h3 : List.length l1 ≤ LIM := by
    have h := hfit.t 0; simp only [e_lk, Nat.reduceBEq, cond_true, cond_false, Fit, FitL, ty_eq, tm_eq, List.length_map, sqC_eq] at h; omega
  cases rest1 with
  | nil =>
    have h1 := dn hd1
    unfold law11_great.L1 at hF
    cases hF
    simp -dsimp (maxDischargeDepth := 6) only [go_sem, h1]
  | cons e5 rest1 =>
    obtain ⟨h1, h2, hd1⟩ := dc hd1
    have h4 := wi h1 h3
    unfold law11_great.L1 at hF
    obtain ⟨r6, h5, hF⟩ := bind_of hF hr
    try simp -dsimp (maxDischargeDepth := 6) only [go_sem, h1, h2, h4]
    refine call_ok (ref02_Great_pc e5  _ h5) (by simp -dsimp (maxDischargeDepth := 6) only [go_sem, h1, h2, h4]) ?_
    try simp -dsimp (maxDischargeDepth := 6) only [go_sem, h1, h2, h4]
    refine zif_of (fun h6 => ?_) (fun h6 => ?_)
    · skip
      replace hF := cond_t h6 hF
      cases hF
      simp -dsimp (maxDischargeDepth := 6) only [go_sem, h1, h2, h4, h6]
    · skip
      replace hF := cond_f h6 hF
      try simp -dsimp (maxDischargeDepth := 6) only [go_sem, h1, h2, h4, h6]
      exact ⟨List.length rest1, _, Nat.lt_succ_self _, (Wks.ok (by simp -dsimp (maxDischargeDepth := 6) only [go_sem, h1, h2, h4, h6])), rest1, i4 + 1, hd1, rfl, rfl, hF⟩
/-- sequent/sequentlaw11.ClassicalTerms -/
def b4 : SCode :=
  (.seq (.ops [.op (some 3) (.bx (.t 0)),
      .op (some 4) (.bx (.t 1)),
      .op (some 5) (.bx (.t 2)),
      .op (some 6) (.mv (.c (.b false)))])
  (.seq (.seq (.ops [.op (some 15) (.ld (.t 3) 7 true),
      .op (some 16) (.ld (.t 4) 7 true),
      .op (some 17) (.ld (.t 5) 7 true),
      .op (some 18) (.bsl 7 [(.t 15), (.t 16), (.t 17)]),
      .call (some 19) (.c (.fn (.func 16) [] [])) [(.t 18)]])
  (.cond (.t 19) (.seq (.ops [.op (some 6) (.mv (.c (.b true)))])
    .ret)
    .skip))
  (.seq (.ops [.op (some 21) (.ld (.t 4) 7 true),
      .op (some 22) (.ld (.t 3) 7 true),
      .call (some 23) (.c (.fn (.func 17) [] [])) [(.t 21), (.t 22)],
      .op (some 20) (.mv (.t 23)),
      .op (some 24) (.ext (.t 20) 0),
      .op (some 25) (.ext (.t 20) 1),
      .op (some 7) (.alm 27 zTm),
      .op none (.st (.t 7) 7 (.t 24)),
      .op (some 8) (.mv (.t 25))])
  (.seq (.ops [.op (some 27) (.ld (.t 4) 7 true),
      .op (some 28) (.ld (.t 3) 7 true),
      .call (some 29) (.c (.fn (.func 18) [] [])) [(.t 27), (.t 28)],
      .op (some 26) (.mv (.t 29)),
      .op (some 30) (.ext (.t 26) 0),
      .op (some 31) (.ext (.t 26) 1),
      .op (some 9) (.alm 27 zTm),
      .op none (.st (.t 9) 7 (.t 30)),
      .op (some 10) (.mv (.t 31))])
  (.seq (.ops [.op (some 33) (.ld (.t 3) 7 true),
      .op (some 34) (.ld (.t 4) 7 true),
      .op (some 35) (.ld (.t 5) 7 true),
      .call (some 36) (.c (.fn (.func 19) [] [])) [(.t 33), (.t 34), (.t 35)],
      .op (some 32) (.mv (.t 36)),
      .op (some 37) (.ext (.t 32) 0),
      .op (some 38) (.ext (.t 32) 1),
      .op (some 11) (.alm 27 zTm),
      .op none (.st (.t 11) 7 (.t 37)),
      .op (some 12) (.mv (.t 38))])
  (.seq (.ops [.op (some 40) (.ld (.t 3) 7 true),
      .op (some 41) (.ld (.t 4) 7 true),
      .op (some 42) (.ld (.t 5) 7 true),
      .call (some 43) (.c (.fn (.func 20) [] [])) [(.t 40), (.t 41), (.t 42)],
      .op (some 39) (.mv (.t 43)),
      .op (some 44) (.ext (.t 39) 0),
      .op (some 45) (.ext (.t 39) 1),
      .op (some 13) (.alm 27 zTm),
      .op none (.st (.t 13) 7 (.t 44)),
      .op (some 14) (.mv (.t 45))])
  (cutS (.ops [.op (some 46) (.ld (.t 7) 7 true),
      .op (some 47) (.ld (.t 9) 7 true),
      .call (some 48) (.c (.fn (.func 15) [] [])) [(.t 46), (.t 47)],
      .op (some 49) (.mv (.t 48)),
      .gd 49 true (some 50) (.op (some 50) (.mv (.t 8))),
      .gd 49 true (some 51) (.op (some 51) (.mv (.t 10))),
      .gd 49 true (some 52) (.op (some 52) (.bi .eql (.t 50) (.t 51))),
      .op (some 53) (.pk (.t 49) (.t 52) (.c (.b false))),
      .op (some 54) (.mv (.t 53)),
      .gd 54 true (some 55) (.op (some 55) (.ld (.t 11) 7 true)),
      .gd 54 true (some 56) (.op (some 56) (.ld (.t 13) 7 true)),
      .gd 54 true (some 57) (.call (some 57) (.c (.fn (.func 15) [] [])) [(.t 55), (.t 56)]),
      .op (some 58) (.pk (.t 54) (.t 57) (.c (.b false))),
      .op (some 59) (.mv (.t 58)),
      .gd 59 true (some 60) (.op (some 60) (.mv (.t 12))),
      .gd 59 true (some 61) (.op (some 61) (.mv (.t 14))),
      .gd 59 true (some 62) (.op (some 62) (.bi .eql (.t 60) (.t 61))),
      .op (some 63) (.pk (.t 59) (.t 62) (.c (.b false))),
      .op (some 6) (.mv (.t 63))])
  .ret)))))))
theorem s4_ok : fnOk Go.Proofs.Try.prog Go.Proofs.Try.f4 ⟨64, [.t 6], b4⟩ = true := by kernel_rfl
def law11_ClassicalTerms (p1 : Tm) (x2 : Tm) (y3 : Tm) : Option (Bool) := (Option.bind (law11_great [p1, x2, y3]) fun r4 => (bif r4 then some true else (Option.bind (classical_MkSelect x2 p1) fun r5 => (Option.bind (ref11_MkSelect x2 p1) fun r6 => (Option.bind (classical_MkCond p1 x2 y3) fun r7 => (Option.bind (ref11_MkCond p1 x2 y3) fun r8 => some ((ref02_Same r5.1 r6.1) && ((decide (r5.2 = r6.2)) && ((ref02_Same r7.1 r8.1) && (decide (r7.2 = r8.2)))))))))))
theorem law11_ClassicalTerms_pc (p1 : Tm) (x2 : Tm) (y3 : Tm) (r : Bool) (hF : law11_ClassicalTerms p1 x2 y3 = some r) : PC Go.Proofs.Try.prog 4 [.agg (tmC p1), .agg (tmC x2), .agg (tmC y3)] (.b r) := by
  obtain ⟨z, hr⟩ : ∃ z, some r = some z := ⟨_, rfl⟩
  refine PC_z Go.Proofs.Try.func4 s4_ok (Nat.le_of_ble_eq_true rfl) fun hf => ?_
  unfold b4 start
  unfold law11_ClassicalTerms at hF
  obtain ⟨r4, h1, hF⟩ := bind_of hF hr
  try simp -dsimp (maxDischargeDepth := 6) only [go_sem]
  refine call_ok (law11_great_pc [p1, x2, y3]  _ h1) (by simp -dsimp (maxDischargeDepth := 6) only [go_sem]) ?_
  try simp -dsimp (maxDischargeDepth := 6) only [go_sem]
  refine zif_of (fun h2 => ?_) (fun h2 => ?_)
  · skip
    replace hF := cond_t h2 hF
    cases hF
    simp -dsimp (maxDischargeDepth := 6) only [go_sem, h2]
  · skip
    replace hF := cond_f h2 hF
    obtain ⟨r5, h3, hF⟩ := bind_of hF hr
    try simp -dsimp (maxDischargeDepth := 6) only [go_sem, h2]
    refine call_ok (classical_MkSelect_pc x2 p1  _ h3) (by simp -dsimp (maxDischargeDepth := 6) only [go_sem, h2]) ?_
    obtain ⟨r6, h4, hF⟩ := bind_of hF hr
    try simp -dsimp (maxDischargeDepth := 6) only [go_sem, h2]
    refine call_ok (ref11_MkSelect_pc x2 p1  _ h4) (by simp -dsimp (maxDischargeDepth := 6) only [go_sem, h2]) ?_
    obtain ⟨r7, h5, hF⟩ := bind_of hF hr
    try simp -dsimp (maxDischargeDepth := 6) only [go_sem, h2]
    refine call_ok (classical_MkCond_pc p1 x2 y3  _ h5) (by simp -dsimp (maxDischargeDepth := 6) only [go_sem, h2]) ?_
    obtain ⟨r8, h6, hF⟩ := bind_of hF hr
    try simp -dsimp (maxDischargeDepth := 6) only [go_sem, h2]
    refine call_ok (ref11_MkCond_pc p1 x2 y3  _ h6) (by simp -dsimp (maxDischargeDepth := 6) only [go_sem, h2]) ?_
    try simp -dsimp (maxDischargeDepth := 6) only [go_sem, h2]
    refine zcut_of (fun s => s = ⟨[(6, .b ((ref02_Same r5.1 r6.1) && ((decide (r5.2 = r6.2)) && ((ref02_Same r7.1 r8.1) && (decide (r7.2 = r8.2))))))], []⟩) ?_ ?_
    · skip
      try simp -dsimp (maxDischargeDepth := 6) only [go_sem, h2]
      refine call_ok (ref02_Same_pc r5.1 r6.1 ) (by simp -dsimp (maxDischargeDepth := 6) only [go_sem, h2]) ?_
      try simp -dsimp (maxDischargeDepth := 6) only [go_sem, h2]
      refine zif_of (fun h7 => ?_) (fun h7 => ?_)
      · skip
        try simp -dsimp (maxDischargeDepth := 6) only [go_sem, h2, h7]
        refine zif_of (fun h8 => ?_) (fun h8 => ?_)
        · skip
          try simp -dsimp (maxDischargeDepth := 6) only [go_sem, h2, h7, h8]
          refine call_ok (ref02_Same_pc r7.1 r8.1 ) (by simp -dsimp (maxDischargeDepth := 6) only [go_sem, h2, h7, h8]) ?_
          try simp -dsimp (maxDischargeDepth := 6) only [go_sem, h2, h7, h8]
          refine zif_of (fun h9 => ?_) (fun h9 => ?_)
          · skip
            try simp -dsimp (maxDischargeDepth := 6) only [go_sem, h2, h7, h8, h9]
            exact ⟨_, (Wks.ok (by simp -dsimp (maxDischargeDepth := 6) only [go_sem, h2, h7, h8, h9])), rfl⟩
          · skip
            try simp -dsimp (maxDischargeDepth := 6) only [go_sem, h2, h7, h8, h9]
            exact ⟨_, (Wks.ok (by simp -dsimp (maxDischargeDepth := 6) only [go_sem, h2, h7, h8, h9])), rfl⟩
        · skip
          try simp -dsimp (maxDischargeDepth := 6) only [go_sem, h2, h7, h8]
          exact ⟨_, (Wks.ok (by simp -dsimp (maxDischargeDepth := 6) only [go_sem, h2, h7, h8])), rfl⟩
      · skip
        try simp -dsimp (maxDischargeDepth := 6) only [go_sem, h2, h7]
        exact ⟨_, (Wks.ok (by simp -dsimp (maxDischargeDepth := 6) only [go_sem, h2, h7])), rfl⟩
    rintro _ rfl hfit
    cases hF
    simp -dsimp (maxDischargeDepth := 6) only [go_sem, h2]
theorem ClassicalTerms_true (p x y : Tm) (hp : okT p) (hx : okT x) (hy : okT y) : law11_ClassicalTerms p x y = some true := by
  unfold law11_ClassicalTerms law11_great
  have e1 := ref02_Great_eq p hp.1 (by have := hp.2; omega)
  have e2 := ref02_Great_eq x hx.1 (by have := hx.2; omega)
  have e3 := ref02_Great_eq y hy.1 (by have := hy.2; omega)
  simp only [law11_great.L1, e1, e2, e3, Option.bind_some, MkSelect_eq x p hx hp, ref11_MkSelect_eq x p hx hp, MkCond_eq p x y hp hx hy, ref11_MkCond_eq p x y hp hx hy, ref02_Same, cmpTm_refl, decide_true, beq_self_eq_true, Bool.and_self]
  cases greatT p <;> cases greatT x <;> cases greatT y <;> rfl

end
end Go.Ab.Q
