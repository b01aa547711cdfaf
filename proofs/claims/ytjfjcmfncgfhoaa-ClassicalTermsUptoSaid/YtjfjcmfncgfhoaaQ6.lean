/- A part of the proof: Q6. -/
import Derived.Test.YtjfjcmfncgfhoaaAbY
import Derived.Test.YtjfjcmfncgfhoaaProg
import Derived.KernelRfl
import Derived.Test.YtjfjcmfncgfhoaaQ1
import Derived.Test.YtjfjcmfncgfhoaaQ2
import Derived.Test.YtjfjcmfncgfhoaaQ3
import Derived.Test.YtjfjcmfncgfhoaaQ4
import Derived.Test.YtjfjcmfncgfhoaaQ5
set_option linter.all false
set_option maxRecDepth 100000
set_option maxHeartbeats 4000000
set_option linter.unusedSimpArgs false
set_option linter.unusedVariables false
namespace Go.Ab.Q
open Go.RowKit
noncomputable section

/-- sequent/quantifier.bind -/
def b72 : SCode :=
  (.seq (.ops [.op (some 3) (.bxm 27 (.t 0)),
      .op (some 4) (.bx (.t 1)),
      .op (some 6) (.alm 27 zTm)])
  (.seq (cutS (.ops [.op (some 10) (.fa (.t 3) 0),
      .op (some 11) (.ld (.t 10) 1 false),
      .op (some 12) (.bi .eql (.t 11) (.c (.i .u8 1))),
      .op (some 13) (.mv (.t 12)),
      .gd 13 true (some 14) (.op (some 14) (.ld (.t 3) 7 true)),
      .gd 13 true (some 15) (.op (some 15) (.ld (.t 4) 7 true)),
      .gd 13 true (some 16) (.call (some 16) (.c (.fn (.func 62) [] [])) [(.t 14), (.t 15)]),
      .op (some 17) (.pk (.t 13) (.t 16) (.c (.b false)))])
  (.cond (.t 17) (.seq (.ops [.op (some 18) (.mv (.t 2)),
        .op (some 19) (.bld zTm [(0, 1, (.c (.i .u8 3))), (5, 1, (.t 18))]),
        .op none (.st (.t 6) 7 (.t 19))])
    .ret)
    .skip))
  (cutS (.seq (.ops [.op (some 20) (.fa (.t 3) 0),
      .op (some 21) (.ld (.t 20) 1 false),
      .op (some 22) (.bi .eql (.t 21) (.c (.i .u8 5)))])
  (.cond (.t 22) (.ops [.op (some 23) (.mv (.t 2)),
        .op (some 24) (.bi .add (.t 23) (.c (.i .i64 1))),
        .op (some 2) (.mv (.t 24))])
    .skip))
  (.seq (.ops [.op (some 25) (.fa (.t 3) 6),
      .op (some 26) (.ld (.t 25) 1 false),
      .op (some 27) (.len (.t 26)),
      .op (some 28) (.mks 27 7 zTm (.t 27)),
      .op (some 7) (.mv (.t 28))])
  (.seq (.seq (.ops [.op (some 29) (.fa (.t 3) 6),
      .op (some 30) (.ld (.t 29) 1 false),
      .op (some 31) (.len (.t 30)),
      .op (some 32) (.mv (.c (.i .i64 0)))])
  (.block 0 (.loop (.seq (.ops [.op (some 33) (.bi .lss (.t 32) (.t 31))])
  (.seq (.cond (.t 33) .skip
    (.exit 0))
  (.seq (.block 1 (.seq (.ops [.op (some 34) (.mv (.t 32)),
      .op (some 35) (.ia 7 (.t 30) (.t 32)),
      .op (some 36) (.ld (.t 35) 7 true),
      .op (some 9) (.alm 27 zTm),
      .op (some 8) (.mv (.t 34)),
      .op none (.st (.t 9) 7 (.t 36))])
  (.ops [.op (some 37) (.mv (.t 7)),
      .op (some 38) (.mv (.t 8)),
      .op (some 39) (.ld (.t 9) 7 true),
      .op (some 40) (.ld (.t 4) 7 true),
      .op (some 41) (.mv (.t 2)),
      .call (some 42) (.c (.fn (.func 72) [] [])) [(.t 39), (.t 40), (.t 41)],
      .op (some 43) (.ia 7 (.t 37) (.t 38)),
      .op none (.st (.t 43) 7 (.t 42))])))
  (.ops [.op (some 44) (.bi .add (.t 32) (.c (.i .i64 1))),
      .op (some 32) (.mv (.t 44))])))))))
  (.seq (.ops [.op (some 45) (.mv (.t 7)),
      .op (some 46) (.fa (.t 3) 6),
      .op none (.st (.t 46) 1 (.t 45))])
  (cutS (.seq (.ops [.op (some 47) (.mv (.t 7)),
      .op (some 48) (.len (.t 47)),
      .op (some 49) (.bi .eql (.t 48) (.c (.i .i64 0)))])
  (.cond (.t 49) (.ops [.op (some 50) (.fa (.t 3) 6),
        .op none (.st (.t 50) 1 (.c (.nils)))])
    .skip))
  (.seq (.ops [.op (some 51) (.ld (.t 3) 7 true),
      .op none (.st (.t 6) 7 (.t 51))])
  .ret))))))))
theorem s72_ok : fnOk Go.Proofs.Try.prog Go.Proofs.Try.f72 ⟨52, [.c 6 7 true], b72⟩ = true := by kernel_rfl
def quantifier_bind.J4 (self : Tm → Tm → Int → Option (Tm)) (t1 : Tm) (ls11 : (List Tm)) : Option (Tm) := some (Tm.mk t1.k t1.n t1.y t1.i ls11)
def quantifier_bind.L3 (self : Tm → Tm → Int → Option (Tm)) (at4 : Int) (v2 : Tm) (t1 : Tm) : List Tm → Nat → (List Tm) → Option (Tm)
  | [], x8, ls7 => (bif (decide ((List.length ls7 : Int) = 0)) then (quantifier_bind.J4 self t1 []) else (quantifier_bind.J4 self t1 ls7))
  | e9 :: rest, x8, ls7 => (Option.bind (self e9 v2 at4) fun r10 => (if 0 ≤ (x8 : Int) ∧ (x8 : Int) < List.length ls7 then ((quantifier_bind.L3 self at4 v2 t1 rest) (x8 + 1) (List.set ls7 x8 r10)) else none))
def quantifier_bind.J2 (self : Tm → Tm → Int → Option (Tm)) (at4 : Int) (v2 : Tm) (t1 : Tm) : Option (Tm) := (if (List.length t1.s) ≤ LIM then (quantifier_bind.L3 self at4 v2 t1 t1.s 0 (List.replicate (List.length t1.s) (Tm.mk 0 (⟨#[]⟩ : ByteArray) (Ty.mk false (⟨#[]⟩ : ByteArray) []) 0 []))) else none)
def quantifier_bind.body (self : Tm → Tm → Int → Option (Tm)) (t1 : Tm) (v2 : Tm) (at3 : Int) : Option (Tm) := (bif ((decide (t1.k = 1)) && (terms_Same t1 v2)) then some (Tm.mk 3 (⟨#[]⟩ : ByteArray) (Ty.mk false (⟨#[]⟩ : ByteArray) []) at3 []) else (bif (decide (t1.k = 5)) then (quantifier_bind.J2 self (IntKind.i64.wrap (at3 + 1)) v2 t1) else (quantifier_bind.J2 self at3 v2 t1)))
theorem quantifier_bind.body_pc (self : Tm → Tm → Int → Option (Tm)) (t1 : Tm) (v2 : Tm) (at3 : Int) (hself : ∀ a0 a1 a2 r, self a0 a1 a2 = some r → PC Go.Proofs.Try.prog 72 [.agg (tmC a0), .agg (tmC a1), .i .i64 a2] (.agg (tmC r))) (r : Tm) (hF : quantifier_bind.body self t1 v2 at3 = some r) : PC Go.Proofs.Try.prog 72 [.agg (tmC t1), .agg (tmC v2), .i .i64 at3] (.agg (tmC r)) := by
  obtain ⟨z, hr⟩ : ∃ z, some r = some z := ⟨_, rfl⟩
  refine PC_z Go.Proofs.Try.func72 s72_ok (Nat.le_of_ble_eq_true rfl) fun hf => ?_
  unfold b72 start
  unfold quantifier_bind.body at hF
  try simp -dsimp only [go_sem]
  refine zcut_of (fun s => s = ⟨[(2, .i .i64 at3), (3, .ptr 0 0), (4, .ip (tmC v2)), (6, .ptr 1 0), (17, .b ((decide (t1.k = 1)) && (terms_Same t1 v2)))], [.box 27 (tmC t1), .box 27 ([.i .u8 0, .s (⟨#[]⟩ : ByteArray), .b false, .s (⟨#[]⟩ : ByteArray), .nils, .i .i64 0, .nils])]⟩) ?_ ?_
  · skip
    try simp -dsimp only [go_sem]
    refine zif_of (fun h1 => ?_) (fun h1 => ?_)
    · skip
      try simp -dsimp only [go_sem, h1]
      refine call_ok (terms_Same_pc t1 v2 ) (by simp -dsimp only [go_sem, h1]) ?_
      try simp -dsimp only [go_sem, h1]
      exact ⟨_, (Wks.ok (by simp -dsimp only [go_sem, h1])), rfl⟩
    · skip
      try simp -dsimp only [go_sem, h1]
      exact ⟨_, (Wks.ok (by simp -dsimp only [go_sem, h1])), rfl⟩
  rintro _ rfl hfit
  try simp -dsimp only [go_sem]
  refine zif_of (fun h2 => ?_) (fun h2 => ?_)
  · skip
    replace hF := cond_t h2 hF
    cases hF
    simp -dsimp only [go_sem, h2]
  · skip
    replace hF := cond_f h2 hF
    try simp -dsimp only [go_sem, h2]
    refine zcut_of (fun s => ∃ (at4 : Int), s = ⟨[(2, .i .i64 at4), (3, .ptr 0 0), (4, .ip (tmC v2)), (6, .ptr 1 0)], [.box 27 (tmC t1), .box 27 ([.i .u8 0, .s (⟨#[]⟩ : ByteArray), .b false, .s (⟨#[]⟩ : ByteArray), .nils, .i .i64 0, .nils])]⟩ ∧ quantifier_bind.J2 self at4 v2 t1 = some r) ?_ ?_
    · skip
      try simp -dsimp only [go_sem, h2]
      refine zif_of (fun h4 => ?_) (fun h4 => ?_)
      · skip
        replace hF := cond_t h4 hF
        try simp -dsimp only [go_sem, h2, h4]
        exact ⟨_, (Wks.ok (by simp -dsimp only [go_sem, h2, h4])), (IntKind.i64.wrap (at3 + 1)), rfl, hF⟩
      · skip
        replace hF := cond_f h4 hF
        try simp -dsimp only [go_sem, h2, h4]
        exact ⟨_, (Wks.ok (by simp -dsimp only [go_sem, h2, h4])), at3, rfl, hF⟩
    clear hF
    rintro _ ⟨at4, rfl, hF⟩ hfit
    unfold quantifier_bind.J2 at hF
    obtain ⟨h5, hF⟩ := ite_of hF hr
    have h5t := eq_true h5
    try simp -dsimp only [go_sem, h2, h5t]
    refine zloop_of (fun m s => ∃ (rest3 : List Tm) (x8 : Nat) (ls7 : (List Tm)), List.drop x8 t1.s = rest3 ∧ List.length rest3 = m ∧ s = ⟨[(2, .i .i64 at4), (3, .ptr 0 0), (4, .ip (tmC v2)), (6, .ptr 1 0), (7, .row 2), (30, .sl false 7 (List.map tmC t1.s)), (31, .i .i64 (List.length t1.s : Int)), (32, .i .i64 (x8 : Int))], [.box 27 (tmC t1), .box 27 ([.i .u8 0, .s (⟨#[]⟩ : ByteArray), .b false, .s (⟨#[]⟩ : ByteArray), .nils, .i .i64 0, .nils]), .row 27 7 (List.map tmC ls7)]⟩ ∧ quantifier_bind.L3 self at4 v2 t1 rest3 x8 ls7 = some r) (List.length t1.s) ⟨_, (Wks.ok (by simp -dsimp only [go_sem, h2, h5t])), t1.s, 0, (List.replicate (List.length t1.s) (Tm.mk 0 (⟨#[]⟩ : ByteArray) (Ty.mk false (⟨#[]⟩ : ByteArray) []) 0 [])), rfl, rfl, rfl, hF⟩ ?_
    clear hF
    rintro _ _ ⟨rest3, x8, ls7, hd3, rfl, rfl, hF⟩ hfit
    have h8 : List.length t1.s ≤ LIM := by
      have h := hfit.t 30; simp only [e_lk, Nat.reduceBEq, cond_true, cond_false, Fit, FitL, ty_eq, tm_eq, List.length_map] at h; omega
    cases rest3 with
    | nil =>
      have h6 := dn hd3
      unfold quantifier_bind.L3 at hF
      try simp -dsimp only [go_sem, h2, h5t, h6]
      refine zcut_of (fun s => ∃ (ls11 : (List Tm)), s = ⟨[(3, .ptr 0 0), (6, .ptr 1 0)], [.box 27 ([.i .u8 t1.k, .s t1.n, .b t1.y.v, .s t1.y.n, .sl false 3 (List.map tyC t1.y.a), .i .i64 t1.i, .row 2]), .box 27 ([.i .u8 0, .s (⟨#[]⟩ : ByteArray), .b false, .s (⟨#[]⟩ : ByteArray), .nils, .i .i64 0, .nils]), .row 27 7 (List.map tmC ls11)]⟩ ∧ quantifier_bind.J4 self t1 ls11 = some r) ?_ ?_
      · skip
        try simp -dsimp only [go_sem, h2, h5t, h6]
        refine zif_of (fun h11 => ?_) (fun h11 => ?_)
        · skip
          replace hF := cond_t h11 hF
          try simp -dsimp only [go_sem, h2, h5t, h6, h11]
          exact ⟨_, (Wks.trans (b := ⟨[(3, .ptr 0 0), (6, .ptr 1 0)], [.box 27 [.i .u8 t1.k, .s t1.n, .b t1.y.v, .s t1.y.n, .sl false 3 (List.map tyC t1.y.a), .i .i64 t1.i, .nils], .box 27 [.i .u8 0, .s (⟨#[]⟩ : ByteArray), .b false, .s (⟨#[]⟩ : ByteArray), .nils, .i .i64 0, .nils]]⟩) (Wks.ok (by simp -dsimp only [go_sem, h2, h5t, h6, h11])) (Wks.trans (Wks.adoptB 0 _ _ 6 27 7 rfl (by simp -dsimp only [go_sem]) (by decide)) (Wks.ok (by simp -dsimp only [go_sem, h2, h5t, h6, h11])))), [], rfl, hF⟩
        · skip
          replace hF := cond_f h11 hF
          try simp -dsimp only [go_sem, h2, h5t, h6, h11]
          exact ⟨_, (Wks.ok (by simp -dsimp only [go_sem, h2, h5t, h6, h11])), ls7, rfl, hF⟩
      clear hF
      rintro _ ⟨ls11, rfl, hF⟩ hfit
      unfold quantifier_bind.J4 at hF
      cases hF
      simp -dsimp only [go_sem, h2, h5t, h6]
    | cons e9 rest3 =>
      obtain ⟨h6, h7, hd3⟩ := dc hd3
      have h9 := wi h6 h8
      unfold quantifier_bind.L3 at hF
      obtain ⟨r10, h12, hF⟩ := bind_of hF hr
      try simp -dsimp only [go_sem, h2, h5t, h6, h7, h9]
      refine call_ok (hself e9 v2 at4  _ h12) (by simp -dsimp only [go_sem, h2, h5t, h6, h7, h9]) ?_
      obtain ⟨⟨h13, h14⟩, hF⟩ := ite_of hF hr
      obtain ⟨yh15, h15⟩ := get_some (show x8 < List.length ls7 by omega)
      have h13t := eq_true h13
      have h14t := eq_true h14
      try simp -dsimp only [go_sem, h2, h5t, h6, h7, h9, h13t, h14t, h15]
      exact ⟨List.length rest3, _, Nat.lt_succ_self _, (Wks.ok (by simp -dsimp only [go_sem, h2, h5t, h6, h7, h9, h13t, h14t, h15])), rest3, x8 + 1, (List.set ls7 x8 r10), hd3, rfl, rfl, hF⟩
def quantifier_bind.fu : Nat → Tm → Tm → Int → Option (Tm)
  | 0 => fun _ _ _ => none
  | n + 1 => quantifier_bind.body (quantifier_bind.fu n)
theorem quantifier_bind.fu_pc : ∀ (n : Nat) (a0 : Tm) (a1 : Tm) (a2 : Int) (r : Tm), quantifier_bind.fu n a0 a1 a2 = some r → PC Go.Proofs.Try.prog 72 [.agg (tmC a0), .agg (tmC a1), .i .i64 a2] (.agg (tmC r))
  | 0, a0, a1, a2, r, h => by cases h
  | n + 1, a0, a1, a2, r, h => quantifier_bind.body_pc (quantifier_bind.fu n) a0 a1 a2 (quantifier_bind.fu_pc n) r h
def bindP (t : Tm) (d : Int) : Prop := fitT t ∧ 0 ≤ d ∧ d + dpT t ≤ 2 ^ 40
noncomputable def bindO (t v : Tm) (d : Int) : Option Tm := og (bindP t d) (bindT t v d)
theorem bindP_sub {t x : Tm} {d : Int} (h : bindP t d) (hx : x ∈ t.s) : bindP x (if t.k = 5 then d + 1 else d) := by
  obtain ⟨h1, h2, h3⟩ := h
  have := dpT_sub hx
  refine ⟨fitTs_mem ((fitT_eq t).1 h1).2.2.2.2.2 hx, ?_, ?_⟩ <;> split <;> omega
theorem quantifier_bind_ok (t v : Tm) (d : Int) (self : Tm → Tm → Int → Option Tm) (hs : ∀ x ∈ t.s, ∀ e, bindP x e → self x v e = some (bindT x v e)) (h : bindP t d) : quantifier_bind.body self t v d = some (bindT t v d) := by
  have hl : t.s.length ≤ LIM := ((fitT_eq t).1 h.1).2.2.2.2.1
  have hp := dpT_eq t
  have h2 := h.2
  have key : ∀ (rest : List Tm) (i : Nat) (ls : List Tm) (e : Int), (∀ x ∈ rest, x ∈ t.s) → (∀ x ∈ t.s, bindP x e) → i + rest.length = ls.length → quantifier_bind.L3 self e v t rest i ls = some (Tm.mk t.k t.n t.y t.i (ls.take i ++ rest.map fun x => bindT x v e)) := by
    intro rest
    induction rest with
    | nil =>
      intro i ls e _ _ h
      simp at h
      by_cases hls : ls = [] <;> simp [quantifier_bind.L3, quantifier_bind.J4, h, hls]
    | cons x l ih =>
      intro i ls e hm hP h
      simp only [List.length_cons] at h
      have h2 : 0 ≤ (i : Int) ∧ (i : Int) < (ls.length : Int) := by omega
      have hx := hm x (List.mem_cons_self ..)
      simp only [quantifier_bind.L3, hs x hx e (hP x hx), Option.bind_some]
      rw [if_pos h2, ih _ _ _ (fun z hz => hm z (List.mem_cons_of_mem _ hz)) hP (by simp; omega), take_set_succ (by omega)]
      simp
  unfold quantifier_bind.body quantifier_bind.J2
  rw [bindT_eq]
  simp only [terms_Same]
  by_cases h1 : t.k = 1
  · have h5 : ¬ t.k = 5 := by omega
    by_cases hc : cmpTm t v = 0
    · simp [h1, hc, bvT, zeroY]
    · have k := key t.s 0 (List.replicate t.s.length (Tm.mk 0 ⟨#[]⟩ (Ty.mk false ⟨#[]⟩ []) 0 [])) d (fun _ h => h) (fun x hx => by have := bindP_sub h hx; rwa [if_neg h5] at this) (by simp)
      simp only [h1, hc, decide_true, decide_false, Bool.and_false, cond_false, and_false, if_false, hl, if_true, k, List.take_zero, List.nil_append]
      rfl
  · by_cases h5 : t.k = 5
    · rw [wr64 (by omega) (by omega)]
      have k := key t.s 0 (List.replicate t.s.length (Tm.mk 0 ⟨#[]⟩ (Ty.mk false ⟨#[]⟩ []) 0 [])) (d + 1) (fun _ h => h) (fun x hx => by have := bindP_sub h hx; rwa [if_pos h5] at this) (by simp)
      simp only [h5, decide_true, cond_true, if_true, hl, k, List.take_zero, List.nil_append]
      rfl
    · have k := key t.s 0 (List.replicate t.s.length (Tm.mk 0 ⟨#[]⟩ (Ty.mk false ⟨#[]⟩ []) 0 [])) d (fun _ h => h) (fun x hx => by have := bindP_sub h hx; rwa [if_neg h5] at this) (by simp)
      simp only [h1, h5, decide_false, Bool.false_and, cond_false, false_and, if_false, hl, if_true, k, List.take_zero, List.nil_append]
theorem bindO_pc : ∀ (t v : Tm) (d : Int) (r : Tm), bindO t v d = some r → PC Go.Proofs.Try.prog 72 [.agg (tmC t), .agg (tmC v), .i .i64 d] (.agg (tmC r)) :=
  fun t v => Tm.ind (p := fun t => ∀ (d : Int) (r : Tm), bindO t v d = some r → PC Go.Proofs.Try.prog 72 [.agg (tmC t), .agg (tmC v), .i .i64 d] (.agg (tmC r))) (fun t ih d r hr => by
    obtain ⟨hb, rfl⟩ := og_of hr
    refine quantifier_bind.body_pc (fun x u e => og (x ∈ t.s ∧ u = v ∧ bindP x e) (bindT x v e)) t v d (fun x u e r h => ?_) _ (quantifier_bind_ok t v d _ (fun x h e k => og_pos ⟨h, rfl, k⟩) hb)
    obtain ⟨⟨h1, rfl, h2⟩, rfl⟩ := og_of h
    exact ih x h1 _ _ (og_pos h2)) t
/-- sequent/quantifier.quantify -/
def b36 : SCode :=
  (.seq (.ops [.op (some 4) (.bx (.t 1)),
      .op (some 5) (.bx (.t 2)),
      .op (some 6) (.alm 27 zTm),
      .op (some 7) (.mv (.c (.i .i64 0)))])
  (.seq (.seq (.ops [.op (some 15) (.ld (.t 4) 7 true),
      .op (some 16) (.ld (.t 5) 7 true),
      .op (some 17) (.bsl 7 [(.t 15), (.t 16)]),
      .op (some 18) (.len (.t 17)),
      .op (some 19) (.mv (.c (.i .i64 0)))])
  (.block 0 (.loop (.seq (.ops [.op (some 20) (.bi .lss (.t 19) (.t 18))])
  (.seq (.cond (.t 20) .skip
    (.exit 0))
  (.seq (.block 1 (.seq (.ops [.op (some 21) (.ia 7 (.t 17) (.t 19)),
      .op (some 22) (.ld (.t 21) 7 true),
      .op (some 9) (.alm 27 zTm),
      .op none (.st (.t 9) 7 (.t 22))])
  (.seq (.ops [.op (some 23) (.ld (.t 9) 7 true),
      .call (some 24) (.c (.fn (.func 46) [] [])) [(.t 23)],
      .op (some 10) (.mv (.t 24))])
  (.seq (.ops [.op (some 25) (.mv (.t 10)),
      .op (some 26) (.bi .neq (.t 25) (.c (.i .i64 0)))])
  (.cond (.t 26) (.seq (.ops [.op (some 27) (.bld zTm []),
        .op (some 28) (.mv (.t 10)),
        .op none (.st (.t 6) 7 (.t 27)),
        .op (some 7) (.mv (.t 28))])
    .ret)
    .skip)))))
  (.ops [.op (some 29) (.bi .add (.t 19) (.c (.i .i64 1))),
      .op (some 19) (.mv (.t 29))])))))))
  (.seq (cutS (.ops [.op (some 30) (.fa (.t 4) 0),
      .op (some 31) (.ld (.t 30) 1 false),
      .op (some 32) (.bi .neq (.t 31) (.c (.i .u8 1))),
      .op (some 33) (.mv (.t 32)),
      .gd 33 false (some 34) (.op (some 34) (.ld (.t 5) 7 true)),
      .gd 33 false (some 35) (.call (some 35) (.c (.fn (.func 50) [] [])) [(.t 34)]),
      .gd 33 false (some 36) (.op (some 36) (.un .not (.t 35))),
      .op (some 37) (.pk (.t 33) (.c (.b true)) (.t 36))])
  (.cond (.t 37) (.seq (.ops [.op (some 38) (.bld zTm []),
        .op none (.st (.t 6) 7 (.t 38)),
        .op (some 7) (.mv (.c (.i .i64 20)))])
    .ret)
    .skip))
  (.seq (.ops [.op (some 39) (.mv (.t 0)),
      .op (some 40) (.fa (.t 4) 2),
      .op (some 41) (.ld (.t 40) 3 true),
      .call (some 42) (.c (.fn (.func 71) [] [])) [(.t 41)],
      .op (some 43) (.bld zTm [(0, 1, (.c (.i .u8 2))), (1, 1, (.t 39)), (2, 3, (.t 42))]),
      .op (some 11) (.alm 27 zTm),
      .op none (.st (.t 11) 7 (.t 43))])
  (.seq (.draw [.op (some 44) (.fa (.t 4) 1),
      .op (some 45) (.ldi (.t 44) 1 false),
      .op (some 46) (.fa (.t 4) 2),
      .op (some 47) (.ldi (.t 46) 3 true),
      .op (some 48) (.ldi (.t 5) 7 true),
      .op (some 49) (.ldi (.t 4) 7 true),
      .call (some 50) (.c (.fn (.func 72) [] [])) [(.t 48), (.t 49), (.c (.i .i64 0))],
      .op (some 51) (.bsl 7 [(.t 50)]),
      .op (some 52) (.bld zTm [(0, 1, (.c (.i .u8 5))), (1, 1, (.t 45)), (2, 3, (.t 47)), (6, 1, (.t 51))]),
      .op (some 12) (.alm 27 zTm),
      .op none (.st (.t 12) 7 (.t 52))])
  (.seq (.ops [.op (some 53) (.ld (.t 11) 7 true),
      .op (some 54) (.ld (.t 12) 7 true),
      .op (some 55) (.bsl 7 [(.t 53), (.t 54)]),
      .op (some 56) (.bld zTm [(0, 1, (.c (.i .u8 4))), (6, 1, (.t 55))]),
      .op (some 13) (.alm 27 zTm),
      .op none (.st (.t 13) 7 (.t 56))])
  (.seq (.seq (.ops [.op (some 57) (.ld (.t 13) 7 true),
      .call (some 58) (.c (.fn (.func 46) [] [])) [(.t 57)],
      .op (some 14) (.mv (.t 58))])
  (.seq (.ops [.op (some 59) (.mv (.t 14)),
      .op (some 60) (.bi .neq (.t 59) (.c (.i .i64 0)))])
  (.cond (.t 60) (.seq (.ops [.op (some 61) (.bld zTm []),
        .op (some 62) (.mv (.t 14)),
        .op none (.st (.t 6) 7 (.t 61)),
        .op (some 7) (.mv (.t 62))])
    .ret)
    .skip)))
  (.seq (.ops [.op (some 63) (.ld (.t 13) 7 true),
      .call (some 64) (.c (.fn (.func 52) [] [])) [(.t 63)],
      .op none (.st (.t 6) 7 (.t 64)),
      .op (some 7) (.mv (.c (.i .i64 0)))])
  .ret))))))))
theorem s36_ok : fnOk Go.Proofs.Try.prog Go.Proofs.Try.f36 ⟨65, [.c 6 7 true, .t 7], b36⟩ = true := by kernel_rfl
def quantifier_quantify.J4 (x1 : ByteArray) (x2 : Tm) (x3 : Tm) (x7 : Bool) : Option (Tm × Int) := (bif x7 then some ((Tm.mk 0 (⟨#[]⟩ : ByteArray) (Ty.mk false (⟨#[]⟩ : ByteArray) []) 0 []), 20) else (lt (prove_Over x2.y) fun r8 => (Option.bind (bindO x3 x2 0) fun r9 => (Option.bind (terms_Check (Tm.mk 4 (⟨#[]⟩ : ByteArray) (Ty.mk false (⟨#[]⟩ : ByteArray) []) 0 [(Tm.mk 2 x1 r8 0 []), (Tm.mk 5 x2.n x2.y 0 [r9])])) fun r10 => (bif (!decide (r10 = 0)) then some ((Tm.mk 0 (⟨#[]⟩ : ByteArray) (Ty.mk false (⟨#[]⟩ : ByteArray) []) 0 []), r10) else some ((Tm.mk 4 (⟨#[]⟩ : ByteArray) (Ty.mk false (⟨#[]⟩ : ByteArray) []) 0 [(Tm.mk 2 x1 r8 0 []), (Tm.mk 5 x2.n x2.y 0 [r9])]), 0))))))
def quantifier_quantify.U3 (x1 : ByteArray) (x2 : Tm) (x3 : Tm) : Option (Tm × Int) := (bif (!decide (x2.k = 1)) then (quantifier_quantify.J4 x1 x2 x3 true) else (Option.bind (prove_Formula x3) fun r6 => (quantifier_quantify.J4 x1 x2 x3 (!r6))))
def quantifier_quantify.U2 (x1 : ByteArray) (x2 : Tm) (x3 : Tm) : Option (Tm × Int) := (Option.bind (terms_Check x3) fun r5 => (bif (!decide (r5 = 0)) then some ((Tm.mk 0 (⟨#[]⟩ : ByteArray) (Ty.mk false (⟨#[]⟩ : ByteArray) []) 0 []), r5) else (quantifier_quantify.U3 x1 x2 x3)))
def quantifier_quantify.U1 (x1 : ByteArray) (x2 : Tm) (x3 : Tm) : Option (Tm × Int) := (Option.bind (terms_Check x2) fun r4 => (bif (!decide (r4 = 0)) then some ((Tm.mk 0 (⟨#[]⟩ : ByteArray) (Ty.mk false (⟨#[]⟩ : ByteArray) []) 0 []), r4) else (quantifier_quantify.U2 x1 x2 x3)))
def quantifier_quantify (x1 : ByteArray) (x2 : Tm) (x3 : Tm) : Option (Tm × Int) := (quantifier_quantify.U1 x1 x2 x3)
theorem quantifier_quantify_pc (x1 : ByteArray) (x2 : Tm) (x3 : Tm) (r : Tm × Int) (hF : quantifier_quantify x1 x2 x3 = some r) : PC Go.Proofs.Try.prog 36 [.s x1, .agg (tmC x2), .agg (tmC x3)] (.tup [.agg (tmC r.1), .i .i64 r.2]) := by
  obtain ⟨z, hr⟩ : ∃ z, some r = some z := ⟨_, rfl⟩
  refine PC_z Go.Proofs.Try.func36 s36_ok (Nat.le_of_ble_eq_true rfl) fun hf => ?_
  unfold b36 start
  unfold quantifier_quantify at hF
  try simp -dsimp only [go_sem]
  refine zloop_of (fun m s => (m = 2 ∧ s = ⟨[(0, .s x1), (4, .ip (tmC x2)), (5, .ip (tmC x3)), (6, .ptr 0 0), (17, .sl true 7 [tmC x2, tmC x3]), (18, .i .i64 2), (19, .i .i64 0)], [.box 27 ([.i .u8 0, .s (⟨#[]⟩ : ByteArray), .b false, .s (⟨#[]⟩ : ByteArray), .nils, .i .i64 0, .nils])]⟩ ∧ quantifier_quantify.U1 x1 x2 x3 = some r) ∨ (m = 1 ∧ s = ⟨[(0, .s x1), (4, .ip (tmC x2)), (5, .ip (tmC x3)), (6, .ptr 0 0), (17, .sl true 7 [tmC x2, tmC x3]), (18, .i .i64 2), (19, .i .i64 1)], [.box 27 ([.i .u8 0, .s (⟨#[]⟩ : ByteArray), .b false, .s (⟨#[]⟩ : ByteArray), .nils, .i .i64 0, .nils])]⟩ ∧ quantifier_quantify.U2 x1 x2 x3 = some r) ∨ (m = 0 ∧ s = ⟨[(0, .s x1), (4, .ip (tmC x2)), (5, .ip (tmC x3)), (6, .ptr 0 0), (17, .sl true 7 [tmC x2, tmC x3]), (18, .i .i64 2), (19, .i .i64 2)], [.box 27 ([.i .u8 0, .s (⟨#[]⟩ : ByteArray), .b false, .s (⟨#[]⟩ : ByteArray), .nils, .i .i64 0, .nils])]⟩ ∧ quantifier_quantify.U3 x1 x2 x3 = some r)) 2 ⟨_, (Wks.ok (by simp -dsimp only [go_sem])), (Or.inl ⟨rfl, rfl, hF⟩)⟩ ?_
  clear hF
  intro m s hj hfit
  rcases hj with ⟨rfl, rfl, hF⟩ | ⟨rfl, rfl, hF⟩ | ⟨rfl, rfl, hF⟩
  · skip
    unfold quantifier_quantify.U1 at hF
    obtain ⟨r4, h1, hF⟩ := bind_of hF hr
    try simp -dsimp only [go_sem]
    refine call_ok (terms_Check_pc x2  _ h1) (by simp -dsimp only [go_sem]) ?_
    try simp -dsimp only [go_sem]
    refine zif_of (fun h2 => ?_) (fun h2 => ?_)
    · skip
      replace hF := cond_t h2 hF
      cases hF
      simp -dsimp only [go_sem, h2]
    · skip
      replace hF := cond_f h2 hF
      try simp -dsimp only [go_sem, h2]
      exact ⟨1, _, by decide, (Wks.ok (by simp -dsimp only [go_sem, h2])), (Or.inr (Or.inl ⟨rfl, rfl, hF⟩))⟩
  · skip
    unfold quantifier_quantify.U2 at hF
    obtain ⟨r5, h3, hF⟩ := bind_of hF hr
    try simp -dsimp only [go_sem]
    refine call_ok (terms_Check_pc x3  _ h3) (by simp -dsimp only [go_sem]) ?_
    try simp -dsimp only [go_sem]
    refine zif_of (fun h4 => ?_) (fun h4 => ?_)
    · skip
      replace hF := cond_t h4 hF
      cases hF
      simp -dsimp only [go_sem, h4]
    · skip
      replace hF := cond_f h4 hF
      try simp -dsimp only [go_sem, h4]
      exact ⟨0, _, by decide, (Wks.ok (by simp -dsimp only [go_sem, h4])), (Or.inr (Or.inr ⟨rfl, rfl, hF⟩))⟩
  · skip
    unfold quantifier_quantify.U3 at hF
    try simp -dsimp only [go_sem]
    refine zcut_of (fun s => ∃ (x7 : Bool), s = ⟨[(0, .s x1), (4, .ip (tmC x2)), (5, .ip (tmC x3)), (6, .ptr 0 0), (37, .b x7)], [.box 27 ([.i .u8 0, .s (⟨#[]⟩ : ByteArray), .b false, .s (⟨#[]⟩ : ByteArray), .nils, .i .i64 0, .nils])]⟩ ∧ quantifier_quantify.J4 x1 x2 x3 x7 = some r) ?_ ?_
    · skip
      try simp -dsimp only [go_sem]
      refine zif_of (fun h6 => ?_) (fun h6 => ?_)
      · skip
        replace hF := cond_t h6 hF
        try simp -dsimp only [go_sem, h6]
        exact ⟨_, (Wks.ok (by simp -dsimp only [go_sem, h6])), true, rfl, hF⟩
      · skip
        replace hF := cond_f h6 hF
        obtain ⟨r6, h7, hF⟩ := bind_of hF hr
        try simp -dsimp only [go_sem, h6]
        refine call_ok (prove_Formula_pc x3  _ h7) (by simp -dsimp only [go_sem, h6]) ?_
        try simp -dsimp only [go_sem, h6]
        exact ⟨_, (Wks.ok (by simp -dsimp only [go_sem, h6])), (!r6), rfl, hF⟩
    clear hF
    rintro _ ⟨x7, rfl, hF⟩ hfit
    unfold quantifier_quantify.J4 at hF
    try simp -dsimp only [go_sem]
    refine zif_of (fun h8 => ?_) (fun h8 => ?_)
    · skip
      replace hF := cond_t h8 hF
      cases hF
      simp -dsimp only [go_sem, h8]
    · skip
      replace hF := cond_f h8 hF
      obtain ⟨r8, h9, hF⟩ := lt_of hF
      try simp -dsimp only [go_sem, h8]
      have hp := (prove_Over_pc x2.y )
      rw [h9] at hp
      refine call_ok hp (by simp -dsimp only [go_sem, h8]) ?_
      clear hp
      obtain ⟨r9, h10, hF⟩ := bind_of hF hr
      try simp -dsimp only [go_sem, h8]
      refine call_ok (bindO_pc x3 x2 0  _ h10) (by simp -dsimp only [go_sem, h8]) ?_
      obtain ⟨r10, h11, hF⟩ := bind_of hF hr
      try simp -dsimp only [go_sem, h8]
      refine call_ok (terms_Check_pc (Tm.mk 4 (⟨#[]⟩ : ByteArray) (Ty.mk false (⟨#[]⟩ : ByteArray) []) 0 [(Tm.mk 2 x1 r8 0 []), (Tm.mk 5 x2.n x2.y 0 [r9])])  _ h11) (by simp -dsimp only [go_sem, h8]) ?_
      try simp -dsimp only [go_sem, h8]
      refine zif_of (fun h12 => ?_) (fun h12 => ?_)
      · skip
        replace hF := cond_t h12 hF
        cases hF
        simp -dsimp only [go_sem, h8, h12]
      · skip
        replace hF := cond_f h12 hF
        try simp -dsimp only [go_sem, h8, h12]
        refine call_ok (twinT_pc (Tm.mk 4 (⟨#[]⟩ : ByteArray) (Ty.mk false (⟨#[]⟩ : ByteArray) []) 0 [(Tm.mk 2 x1 r8 0 []), (Tm.mk 5 x2.n x2.y 0 [r9])])) (by simp -dsimp only [go_sem, h8, h12]) ?_
        cases hF
        simp -dsimp only [go_sem, h8, h12]
def constT (n : ByteArray) (y : Ty) : Tm := .mk 2 n y 0 []
def appT (f x : Tm) : Tm := .mk 4 ⟨#[]⟩ zeroY 0 [f, x]
def absT (v t : Tm) : Tm := .mk 5 v.n v.y 0 [bindT t v 0]
def overY (t : Ty) : Ty := funY (funY t boolY) boolY
/-- A quantified term. -/
def quantT (n : ByteArray) (v t : Tm) : Tm := appT (constT n (overY v.y)) (absT v t)
theorem quantT_bk (n : ByteArray) (v t : Tm) : bkT (quantT n v t) ≤ 40 + n.size + 2 * bkT v + bkT t := by
  have h1 := bindT_bk t v 0
  have h2 := bkT_eq v
  have e1 : (ByteArray.size ⟨#[102, 117, 110]⟩) = 3 := rfl
  have e2 : (ByteArray.size ⟨#[98, 111, 111, 108]⟩) = 4 := rfl
  have e3 : (ByteArray.size ⟨#[]⟩) = 0 := rfl
  simp only [quantT, appT, constT, absT, overY, funY, boolY, zeroY, bkT, bkTs, bkY, bkYs, e1, e2, e3]
  omega
/-- What a quantifier's constructor returns. -/
def mkQ (n : ByteArray) (v t : Tm) : Tm × Int :=
  if chkT v ≠ 0 then (zeroT, chkT v) else if chkT t ≠ 0 then (zeroT, chkT t) else if v.k ≠ 1 ∨ isForm t = false then (zeroT, 20)
  else if chkT (quantT n v t) = 0 then (quantT n v t, 0) else (zeroT, chkT (quantT n v t))
def okT (t : Tm) : Prop := fitT t ∧ bkT t ≤ 2 ^ 30
theorem okT_bind {t : Tm} (h : okT t) : bindP t 0 := by
  have := dpT_le t; have := szT_bk t; have := h.2
  exact ⟨h.1, by omega, by omega⟩
theorem quantify_eq (n : ByteArray) (v t : Tm) (hn : n.size ≤ 30) (hv : okT v) (ht : okT t) : quantifier_quantify n v t = some (mkQ n v t) := by
  have hq := quantT_bk n v t
  have e1 := terms_Check_eq (quantT n v t) (by have := hv.2; have := ht.2; omega)
  unfold quantifier_quantify quantifier_quantify.U1 quantifier_quantify.U2 quantifier_quantify.U3 quantifier_quantify.J4 mkQ
  rw [terms_Check_eq v (by have := hv.2; omega), terms_Check_eq t (by have := ht.2; omega), prove_Formula_eq t (by have := ht.2; omega)]
  unfold bindO
  rw [og_pos (okT_bind ht)]
  simp only [Option.bind_some, prove_Over_eq, lt_eq]
  have e2 : Tm.mk 4 ⟨#[]⟩ (Ty.mk false ⟨#[]⟩ []) 0 [Tm.mk 2 n (funY (funY v.y boolY) boolY) 0 [], Tm.mk 5 v.n v.y 0 [bindT t v 0]] = quantT n v t := rfl
  rw [e2, e1]
  simp only [Option.bind_some]
  have e3 : Tm.mk 0 ⟨#[]⟩ (Ty.mk false ⟨#[]⟩ []) 0 [] = zeroT := rfl
  rw [e3]
  by_cases h1 : chkT v = 0
  · by_cases h2 : chkT t = 0
    · by_cases h3 : v.k = 1
      · by_cases h4 : chkT (quantT n v t) = 0 <;> cases h5 : isForm t <;> simp [h1, h2, h3, h4]
      · simp [h1, h2, h3]
    · simp [h1, h2]
  · simp [h1]
/-- sequent/quantifier.MkForall -/
def b7 : SCode :=
  (.seq (.ops [.op (some 2) (.bx (.t 0)),
      .op (some 3) (.bx (.t 1)),
      .op (some 4) (.alm 27 zTm),
      .op (some 5) (.mv (.c (.i .i64 0)))])
  (.seq (.ops [.op (some 6) (.ld (.t 2) 7 true),
      .op (some 7) (.ld (.t 3) 7 true),
      .call (some 8) (.c (.fn (.func 36) [] [])) [(.c (.s { data := #[33] })), (.t 6), (.t 7)],
      .op (some 9) (.ext (.t 8) 0),
      .op (some 10) (.ext (.t 8) 1),
      .op none (.st (.t 4) 7 (.t 9)),
      .op (some 5) (.mv (.t 10))])
  .ret))
theorem s7_ok : fnOk Go.Proofs.Try.prog Go.Proofs.Try.f7 ⟨11, [.c 4 7 true, .t 5], b7⟩ = true := by kernel_rfl
def quantifier_MkForall (v1 : Tm) (t2 : Tm) : Option (Tm × Int) := (Option.bind (quantifier_quantify (⟨#[33]⟩ : ByteArray) v1 t2) fun r3 => some (r3.1, r3.2))
theorem quantifier_MkForall_pc (v1 : Tm) (t2 : Tm) (r : Tm × Int) (hF : quantifier_MkForall v1 t2 = some r) : PC Go.Proofs.Try.prog 7 [.agg (tmC v1), .agg (tmC t2)] (.tup [.agg (tmC r.1), .i .i64 r.2]) := by
  obtain ⟨z, hr⟩ : ∃ z, some r = some z := ⟨_, rfl⟩
  refine PC_z Go.Proofs.Try.func7 s7_ok (Nat.le_of_ble_eq_true rfl) fun hf => ?_
  unfold b7 start
  unfold quantifier_MkForall at hF
  obtain ⟨r3, h1, hF⟩ := bind_of hF hr
  try simp -dsimp only [go_sem]
  refine call_ok (quantifier_quantify_pc (⟨#[33]⟩ : ByteArray) v1 t2  _ h1) (by simp -dsimp only [go_sem]) ?_
  cases hF
  simp -dsimp only [go_sem]
/-- sequent/quantifier.MkExists -/
def b9 : SCode :=
  (.seq (.ops [.op (some 2) (.bx (.t 0)),
      .op (some 3) (.bx (.t 1)),
      .op (some 4) (.alm 27 zTm),
      .op (some 5) (.mv (.c (.i .i64 0)))])
  (.seq (.ops [.op (some 6) (.ld (.t 2) 7 true),
      .op (some 7) (.ld (.t 3) 7 true),
      .call (some 8) (.c (.fn (.func 36) [] [])) [(.c (.s { data := #[63] })), (.t 6), (.t 7)],
      .op (some 9) (.ext (.t 8) 0),
      .op (some 10) (.ext (.t 8) 1),
      .op none (.st (.t 4) 7 (.t 9)),
      .op (some 5) (.mv (.t 10))])
  .ret))
theorem s9_ok : fnOk Go.Proofs.Try.prog Go.Proofs.Try.f9 ⟨11, [.c 4 7 true, .t 5], b9⟩ = true := by kernel_rfl
def quantifier_MkExists (v1 : Tm) (t2 : Tm) : Option (Tm × Int) := (Option.bind (quantifier_quantify (⟨#[63]⟩ : ByteArray) v1 t2) fun r3 => some (r3.1, r3.2))
theorem quantifier_MkExists_pc (v1 : Tm) (t2 : Tm) (r : Tm × Int) (hF : quantifier_MkExists v1 t2 = some r) : PC Go.Proofs.Try.prog 9 [.agg (tmC v1), .agg (tmC t2)] (.tup [.agg (tmC r.1), .i .i64 r.2]) := by
  obtain ⟨z, hr⟩ : ∃ z, some r = some z := ⟨_, rfl⟩
  refine PC_z Go.Proofs.Try.func9 s9_ok (Nat.le_of_ble_eq_true rfl) fun hf => ?_
  unfold b9 start
  unfold quantifier_MkExists at hF
  obtain ⟨r3, h1, hF⟩ := bind_of hF hr
  try simp -dsimp only [go_sem]
  refine call_ok (quantifier_quantify_pc (⟨#[63]⟩ : ByteArray) v1 t2  _ h1) (by simp -dsimp only [go_sem]) ?_
  cases hF
  simp -dsimp only [go_sem]
/-- sequent/quantifier.MkUnique -/
def b10 : SCode :=
  (.seq (.ops [.op (some 2) (.bx (.t 0)),
      .op (some 3) (.bx (.t 1)),
      .op (some 4) (.alm 27 zTm),
      .op (some 5) (.mv (.c (.i .i64 0)))])
  (.seq (.ops [.op (some 6) (.ld (.t 2) 7 true),
      .op (some 7) (.ld (.t 3) 7 true),
      .call (some 8) (.c (.fn (.func 36) [] [])) [(.c (.s { data := #[63, 33] })), (.t 6), (.t 7)],
      .op (some 9) (.ext (.t 8) 0),
      .op (some 10) (.ext (.t 8) 1),
      .op none (.st (.t 4) 7 (.t 9)),
      .op (some 5) (.mv (.t 10))])
  .ret))
theorem s10_ok : fnOk Go.Proofs.Try.prog Go.Proofs.Try.f10 ⟨11, [.c 4 7 true, .t 5], b10⟩ = true := by kernel_rfl
def quantifier_MkUnique (v1 : Tm) (t2 : Tm) : Option (Tm × Int) := (Option.bind (quantifier_quantify (⟨#[63, 33]⟩ : ByteArray) v1 t2) fun r3 => some (r3.1, r3.2))
theorem quantifier_MkUnique_pc (v1 : Tm) (t2 : Tm) (r : Tm × Int) (hF : quantifier_MkUnique v1 t2 = some r) : PC Go.Proofs.Try.prog 10 [.agg (tmC v1), .agg (tmC t2)] (.tup [.agg (tmC r.1), .i .i64 r.2]) := by
  obtain ⟨z, hr⟩ : ∃ z, some r = some z := ⟨_, rfl⟩
  refine PC_z Go.Proofs.Try.func10 s10_ok (Nat.le_of_ble_eq_true rfl) fun hf => ?_
  unfold b10 start
  unfold quantifier_MkUnique at hF
  obtain ⟨r3, h1, hF⟩ := bind_of hF hr
  try simp -dsimp only [go_sem]
  refine call_ok (quantifier_quantify_pc (⟨#[63, 33]⟩ : ByteArray) v1 t2  _ h1) (by simp -dsimp only [go_sem]) ?_
  cases hF
  simp -dsimp only [go_sem]
/-- sequent/sequentref02.App -/
def b75 : SCode :=
  (.seq (.ops [.op (some 2) (.bx (.t 0)),
      .op (some 3) (.bx (.t 1)),
      .op (some 4) (.alm 27 zTm)])
  (.seq (.ops [.op (some 5) (.ld (.t 2) 7 true),
      .op (some 6) (.ld (.t 3) 7 true),
      .op (some 7) (.bsl 7 [(.t 5), (.t 6)]),
      .op (some 8) (.bld zTm [(0, 1, (.c (.i .u8 4))), (6, 1, (.t 7))]),
      .op none (.st (.t 4) 7 (.t 8))])
  .ret))
theorem s75_ok : fnOk Go.Proofs.Try.prog Go.Proofs.Try.f75 ⟨9, [.c 4 7 true], b75⟩ = true := by kernel_rfl
def ref02_App (f1 : Tm) (x2 : Tm) : Tm := (Tm.mk 4 (⟨#[]⟩ : ByteArray) (Ty.mk false (⟨#[]⟩ : ByteArray) []) 0 [f1, x2])
theorem ref02_App_pc (f1 : Tm) (x2 : Tm) : PC Go.Proofs.Try.prog 75 [.agg (tmC f1), .agg (tmC x2)] (.agg (tmC (ref02_App f1 x2))) := by
  obtain ⟨r, hF⟩ : ∃ r, ref02_App f1 x2 = r := ⟨_, rfl⟩
  rw [hF]
  refine PC_z Go.Proofs.Try.func75 s75_ok (Nat.le_of_ble_eq_true rfl) fun hf => ?_
  unfold b75 start
  unfold ref02_App at hF
  subst hF
  simp -dsimp only [go_sem]
/-- sequent/sequentref09.Constant -/
def b76 : SCode :=
  (.seq (.ops [.op (some 3) (.bx (.t 1)),
      .op (some 4) (.alm 27 zTm)])
  (.seq (.ops [.op (some 5) (.mv (.t 0)),
      .op (some 6) (.ld (.t 3) 3 true),
      .op (some 7) (.bld zTm [(0, 1, (.c (.i .u8 2))), (1, 1, (.t 5)), (2, 3, (.t 6))]),
      .op none (.st (.t 4) 7 (.t 7))])
  .ret))
theorem s76_ok : fnOk Go.Proofs.Try.prog Go.Proofs.Try.f76 ⟨8, [.c 4 7 true], b76⟩ = true := by kernel_rfl
def ref09_Constant (name1 : ByteArray) (t2 : Ty) : Tm := (Tm.mk 2 name1 t2 0 [])
theorem ref09_Constant_pc (name1 : ByteArray) (t2 : Ty) : PC Go.Proofs.Try.prog 76 [.s name1, .agg (tyC t2)] (.agg (tmC (ref09_Constant name1 t2))) := by
  obtain ⟨r, hF⟩ : ∃ r, ref09_Constant name1 t2 = r := ⟨_, rfl⟩
  rw [hF]
  refine PC_z Go.Proofs.Try.func76 s76_ok (Nat.le_of_ble_eq_true rfl) fun hf => ?_
  unfold b76 start
  unfold ref09_Constant at hF
  subst hF
  simp -dsimp only [go_sem]
/-- sequent/sequentref09.Over -/
def b77 : SCode :=
  (.seq (.ops [.op (some 1) (.bx (.t 0)),
      .op (some 2) (.alm 24 zTy)])
  (.seq (.draw [.op (some 3) (.ldi (.t 1) 3 true),
      .call (some 4) (.c (.fn (.func 74) [] [])) [],
      .call (some 5) (.c (.fn (.func 89) [] [])) [(.t 3), (.t 4)],
      .call (some 6) (.c (.fn (.func 74) [] [])) [],
      .call (some 7) (.c (.fn (.func 89) [] [])) [(.t 5), (.t 6)],
      .op none (.st (.t 2) 3 (.t 7))])
  .ret))
theorem s77_ok : fnOk Go.Proofs.Try.prog Go.Proofs.Try.f77 ⟨8, [.c 2 3 true], b77⟩ = true := by kernel_rfl
def ref09_Over (t1 : Ty) : Ty := (lt (ref01_Bool) fun r2 => (lt (ref01_Fun t1 r2) fun r3 => (lt (ref01_Bool) fun r4 => (lt (ref01_Fun r3 r4) fun r5 => r5))))
theorem ref09_Over_pc (t1 : Ty) : PC Go.Proofs.Try.prog 77 [.agg (tyC t1)] (.agg (tyC (ref09_Over t1))) := by
  obtain ⟨r, hF⟩ : ∃ r, ref09_Over t1 = r := ⟨_, rfl⟩
  rw [hF]
  refine PC_z Go.Proofs.Try.func77 s77_ok (Nat.le_of_ble_eq_true rfl) fun hf => ?_
  unfold b77 start
  unfold ref09_Over at hF
  obtain ⟨r2, h1, hF⟩ := lt_of hF
  try simp -dsimp only [go_sem]
  have hp := (ref01_Bool_pc  )
  rw [h1] at hp
  refine call_ok hp (by simp -dsimp only [go_sem]) ?_
  clear hp
  obtain ⟨r3, h2, hF⟩ := lt_of hF
  try simp -dsimp only [go_sem]
  have hp := (ref01_Fun_pc t1 r2 )
  rw [h2] at hp
  refine call_ok hp (by simp -dsimp only [go_sem]) ?_
  clear hp
  obtain ⟨r4, h3, hF⟩ := lt_of hF
  try simp -dsimp only [go_sem]
  have hp := (ref01_Bool_pc  )
  rw [h3] at hp
  refine call_ok hp (by simp -dsimp only [go_sem]) ?_
  clear hp
  obtain ⟨r5, h4, hF⟩ := lt_of hF
  try simp -dsimp only [go_sem]
  have hp := (ref01_Fun_pc r3 r4 )
  rw [h4] at hp
  refine call_ok hp (by simp -dsimp only [go_sem]) ?_
  clear hp
  subst hF
  simp -dsimp only [go_sem]
/-- sequent/sequentref02.Bind -/
def b85 : SCode :=
  (.seq (.ops [.op (some 3) (.bx (.t 0)),
      .op (some 4) (.bx (.t 1)),
      .op (some 6) (.alm 27 zTm)])
  (.seq (cutS (.ops [.op (some 9) (.fa (.t 3) 0),
      .op (some 10) (.ld (.t 9) 1 false),
      .op (some 11) (.bi .eql (.t 10) (.c (.i .u8 1))),
      .op (some 12) (.mv (.t 11)),
      .gd 12 true (some 13) (.op (some 13) (.ld (.t 3) 7 true)),
      .gd 12 true (some 14) (.op (some 14) (.ld (.t 4) 7 true)),
      .gd 12 true (some 15) (.call (some 15) (.c (.fn (.func 15) [] [])) [(.t 13), (.t 14)]),
      .op (some 16) (.pk (.t 12) (.t 15) (.c (.b false)))])
  (.cond (.t 16) (.seq (.ops [.op (some 17) (.mv (.t 2)),
        .op (some 18) (.bld zTm [(0, 1, (.c (.i .u8 3))), (5, 1, (.t 17))]),
        .op none (.st (.t 6) 7 (.t 18))])
    .ret)
    .skip))
  (cutS (.seq (.ops [.op (some 19) (.fa (.t 3) 0),
      .op (some 20) (.ld (.t 19) 1 false),
      .op (some 21) (.bi .eql (.t 20) (.c (.i .u8 5)))])
  (.cond (.t 21) (.ops [.op (some 22) (.mv (.t 2)),
        .op (some 23) (.bi .add (.t 22) (.c (.i .i64 1))),
        .op (some 2) (.mv (.t 23))])
    .skip))
  (.seq (.ops [.op (some 24) (.fa (.t 3) 0),
      .op (some 25) (.ld (.t 24) 1 false),
      .op (some 26) (.fa (.t 3) 1),
      .op (some 27) (.ld (.t 26) 1 false),
      .op (some 28) (.fa (.t 3) 2),
      .op (some 29) (.ld (.t 28) 3 true),
      .op (some 30) (.fa (.t 3) 5),
      .op (some 31) (.ld (.t 30) 1 false),
      .op (some 32) (.bld zTm [(0, 1, (.t 25)), (1, 1, (.t 27)), (2, 3, (.t 29)), (5, 1, (.t 31))]),
      .op (some 7) (.alm 27 zTm),
      .op none (.st (.t 7) 7 (.t 32))])
  (.seq (.seq (.ops [.op (some 8) (.mv (.c (.i .i64 0)))])
  (.block 0 (.loop (.seq (.seq (.ops [.op (some 33) (.mv (.t 8)),
      .op (some 34) (.fa (.t 3) 6),
      .op (some 35) (.ld (.t 34) 1 false),
      .op (some 36) (.len (.t 35)),
      .op (some 37) (.bi .lss (.t 33) (.t 36))])
  (.cond (.t 37) .skip
    (.exit 0)))
  (.seq (.block 1 (.draw [.op (some 40) (.fa (.t 7) 6),
      .op (some 41) (.ld (.t 40) 1 false),
      .op (some 42) (.fa (.t 3) 6),
      .op (some 43) (.ldi (.t 42) 1 false),
      .op (some 44) (.mv (.t 8)),
      .op (some 45) (.ia 7 (.t 43) (.t 44)),
      .op (some 46) (.ld (.t 45) 7 true),
      .op (some 47) (.ldi (.t 4) 7 true),
      .op (some 48) (.mv (.t 2)),
      .call (some 49) (.c (.fn (.func 85) [] [])) [(.t 46), (.t 47), (.t 48)],
      .op (some 50) (.bsl 7 [(.t 49)]),
      .op (some 51) (.app 27 7 (.t 41) (.t 50)),
      .op (some 52) (.fa (.t 7) 6),
      .op none (.st (.t 52) 1 (.t 51))]))
  (.ops [.op (some 38) (.mv (.t 8)),
      .op (some 39) (.bi .add (.t 38) (.c (.i .i64 1))),
      .op (some 8) (.mv (.t 39))]))))))
  (.seq (.ops [.op (some 53) (.ld (.t 7) 7 true),
      .op none (.st (.t 6) 7 (.t 53))])
  .ret))))))
theorem s85_ok : fnOk Go.Proofs.Try.prog Go.Proofs.Try.f85 ⟨54, [.c 6 7 true], b85⟩ = true := by kernel_rfl
def ref02_Bind.L3 (self : Tm → Tm → Int → Option (Tm)) (at4 : Int) (t1 : Tm) (v2 : Tm) : List Tm → Nat → (List Tm) → Option (Tm)
  | [], i8, ls7 => some (Tm.mk t1.k t1.n t1.y t1.i ls7)
  | e9 :: rest, i8, ls7 => (Option.bind (self e9 v2 at4) fun r10 => (if List.length ls7 + 1 ≤ LIM then ((ref02_Bind.L3 self at4 t1 v2 rest) (i8 + 1) (ls7 ++ [r10])) else none))
def ref02_Bind.J2 (self : Tm → Tm → Int → Option (Tm)) (at4 : Int) (t1 : Tm) (v2 : Tm) : Option (Tm) := (ref02_Bind.L3 self at4 t1 v2 t1.s 0 [])
def ref02_Bind.body (self : Tm → Tm → Int → Option (Tm)) (t1 : Tm) (v2 : Tm) (at3 : Int) : Option (Tm) := (bif ((decide (t1.k = 1)) && (ref02_Same t1 v2)) then some (Tm.mk 3 (⟨#[]⟩ : ByteArray) (Ty.mk false (⟨#[]⟩ : ByteArray) []) at3 []) else (bif (decide (t1.k = 5)) then (ref02_Bind.J2 self (IntKind.i64.wrap (at3 + 1)) t1 v2) else (ref02_Bind.J2 self at3 t1 v2)))
theorem ref02_Bind.body_pc (self : Tm → Tm → Int → Option (Tm)) (t1 : Tm) (v2 : Tm) (at3 : Int) (hself : ∀ a0 a1 a2 r, self a0 a1 a2 = some r → PC Go.Proofs.Try.prog 85 [.agg (tmC a0), .agg (tmC a1), .i .i64 a2] (.agg (tmC r))) (r : Tm) (hF : ref02_Bind.body self t1 v2 at3 = some r) : PC Go.Proofs.Try.prog 85 [.agg (tmC t1), .agg (tmC v2), .i .i64 at3] (.agg (tmC r)) := by
  obtain ⟨z, hr⟩ : ∃ z, some r = some z := ⟨_, rfl⟩
  refine PC_z Go.Proofs.Try.func85 s85_ok (Nat.le_of_ble_eq_true rfl) fun hf => ?_
  unfold b85 start
  unfold ref02_Bind.body at hF
  try simp -dsimp only [go_sem]
  refine zcut_of (fun s => s = ⟨[(2, .i .i64 at3), (3, .ip (tmC t1)), (4, .ip (tmC v2)), (6, .ptr 0 0), (16, .b ((decide (t1.k = 1)) && (ref02_Same t1 v2)))], [.box 27 ([.i .u8 0, .s (⟨#[]⟩ : ByteArray), .b false, .s (⟨#[]⟩ : ByteArray), .nils, .i .i64 0, .nils])]⟩) ?_ ?_
  · skip
    try simp -dsimp only [go_sem]
    refine zif_of (fun h1 => ?_) (fun h1 => ?_)
    · skip
      try simp -dsimp only [go_sem, h1]
      refine call_ok (ref02_Same_pc t1 v2 ) (by simp -dsimp only [go_sem, h1]) ?_
      try simp -dsimp only [go_sem, h1]
      exact ⟨_, (Wks.ok (by simp -dsimp only [go_sem, h1])), rfl⟩
    · skip
      try simp -dsimp only [go_sem, h1]
      exact ⟨_, (Wks.ok (by simp -dsimp only [go_sem, h1])), rfl⟩
  rintro _ rfl hfit
  try simp -dsimp only [go_sem]
  refine zif_of (fun h2 => ?_) (fun h2 => ?_)
  · skip
    replace hF := cond_t h2 hF
    cases hF
    simp -dsimp only [go_sem, h2]
  · skip
    replace hF := cond_f h2 hF
    try simp -dsimp only [go_sem, h2]
    refine zcut_of (fun s => ∃ (at4 : Int), s = ⟨[(2, .i .i64 at4), (3, .ip (tmC t1)), (4, .ip (tmC v2)), (6, .ptr 0 0)], [.box 27 ([.i .u8 0, .s (⟨#[]⟩ : ByteArray), .b false, .s (⟨#[]⟩ : ByteArray), .nils, .i .i64 0, .nils])]⟩ ∧ ref02_Bind.J2 self at4 t1 v2 = some r) ?_ ?_
    · skip
      try simp -dsimp only [go_sem, h2]
      refine zif_of (fun h4 => ?_) (fun h4 => ?_)
      · skip
        replace hF := cond_t h4 hF
        try simp -dsimp only [go_sem, h2, h4]
        exact ⟨_, (Wks.ok (by simp -dsimp only [go_sem, h2, h4])), (IntKind.i64.wrap (at3 + 1)), rfl, hF⟩
      · skip
        replace hF := cond_f h4 hF
        try simp -dsimp only [go_sem, h2, h4]
        exact ⟨_, (Wks.ok (by simp -dsimp only [go_sem, h2, h4])), at3, rfl, hF⟩
    clear hF
    rintro _ ⟨at4, rfl, hF⟩ hfit
    unfold ref02_Bind.J2 at hF
    try simp -dsimp only [go_sem, h2]
    refine zloop_of (fun m s => ∃ (rest3 : List Tm) (i8 : Nat) (ls7 : (List Tm)), List.drop i8 t1.s = rest3 ∧ List.length rest3 = m ∧ s = ⟨[(2, .i .i64 at4), (3, .ip (tmC t1)), (4, .ip (tmC v2)), (6, .ptr 0 0), (7, .ptr 1 0), (8, .i .i64 (i8 : Int))], [.box 27 ([.i .u8 0, .s (⟨#[]⟩ : ByteArray), .b false, .s (⟨#[]⟩ : ByteArray), .nils, .i .i64 0, .nils]), .box 27 ([.i .u8 t1.k, .s t1.n, .b t1.y.v, .s t1.y.n, .sl false 3 (List.map tyC t1.y.a), .i .i64 t1.i, .row 2]), .row 27 7 (List.map tmC ls7)]⟩ ∧ ref02_Bind.L3 self at4 t1 v2 rest3 i8 ls7 = some r) (List.length t1.s) ⟨_, (Wks.trans (b := ⟨[(2, .i .i64 at4), (3, .ip (tmC t1)), (4, .ip (tmC v2)), (6, .ptr 0 0), (7, .ptr 1 0), (8, .i .i64 (0 : Int))], [.box 27 [.i .u8 0, .s (⟨#[]⟩ : ByteArray), .b false, .s (⟨#[]⟩ : ByteArray), .nils, .i .i64 0, .nils], .box 27 [.i .u8 t1.k, .s t1.n, .b t1.y.v, .s t1.y.n, .sl false 3 (List.map tyC t1.y.a), .i .i64 t1.i, .nils]]⟩) (Wks.ok (by simp -dsimp only [go_sem, h2])) (Wks.trans (Wks.adoptB 1 _ _ 6 27 7 rfl (by simp -dsimp only [go_sem]) (by decide)) (Wks.ok (by simp -dsimp only [go_sem, h2])))), t1.s, 0, [], rfl, rfl, rfl, hF⟩ ?_
    clear hF
    rintro _ _ ⟨rest3, i8, ls7, hd3, rfl, rfl, hF⟩ hfit
    have h7 : List.length t1.s ≤ LIM := by
      have h := hfit.t 3; simp only [e_lk, Nat.reduceBEq, cond_true, cond_false, Fit, FitL, ty_eq, tm_eq, List.length_map] at h; omega
    cases rest3 with
    | nil =>
      have h5 := dn hd3
      unfold ref02_Bind.L3 at hF
      cases hF
      simp -dsimp only [go_sem, h2, h5]
    | cons e9 rest3 =>
      obtain ⟨h5, h6, hd3⟩ := dc hd3
      have h8 := wi h5 h7
      unfold ref02_Bind.L3 at hF
      obtain ⟨r10, h9, hF⟩ := bind_of hF hr
      try simp -dsimp only [go_sem, h2, h5, h6, h8]
      refine call_ok (hself e9 v2 at4  _ h9) (by simp -dsimp only [go_sem, h2, h5, h6, h8]) ?_
      obtain ⟨h10, hF⟩ := ite_of hF hr
      have h10t := eq_true h10
      try simp -dsimp only [go_sem, h2, h5, h6, h8, h10t]
      exact ⟨List.length rest3, _, Nat.lt_succ_self _, (Wks.ok (by simp -dsimp only [go_sem, h2, h5, h6, h8, h10t])), rest3, i8 + 1, (ls7 ++ [r10]), hd3, rfl, rfl, hF⟩
def ref02_Bind.fu : Nat → Tm → Tm → Int → Option (Tm)
  | 0 => fun _ _ _ => none
  | n + 1 => ref02_Bind.body (ref02_Bind.fu n)
theorem ref02_Bind.fu_pc : ∀ (n : Nat) (a0 : Tm) (a1 : Tm) (a2 : Int) (r : Tm), ref02_Bind.fu n a0 a1 a2 = some r → PC Go.Proofs.Try.prog 85 [.agg (tmC a0), .agg (tmC a1), .i .i64 a2] (.agg (tmC r))
  | 0, a0, a1, a2, r, h => by cases h
  | n + 1, a0, a1, a2, r, h => ref02_Bind.body_pc (ref02_Bind.fu n) a0 a1 a2 (ref02_Bind.fu_pc n) r h
theorem ref02_Bind_ok (t v : Tm) (d : Int) (self : Tm → Tm → Int → Option Tm) (hs : ∀ x ∈ t.s, ∀ e, bindP x e → self x v e = some (bindT x v e)) (h : bindP t d) : ref02_Bind.body self t v d = some (bindT t v d) := by
  have hl : t.s.length ≤ LIM := ((fitT_eq t).1 h.1).2.2.2.2.1
  have hp := dpT_eq t
  have h2 := h.2
  have key : ∀ (rest : List Tm) (i : Nat) (ls : List Tm) (e : Int), (∀ x ∈ rest, x ∈ t.s) → (∀ x ∈ t.s, bindP x e) → ls.length + rest.length ≤ LIM → ref02_Bind.L3 self e t v rest i ls = some (Tm.mk t.k t.n t.y t.i (ls ++ rest.map fun x => bindT x v e)) := by
    intro rest
    induction rest with
    | nil => intro i ls e _ _ h; simp [ref02_Bind.L3]
    | cons x l ih =>
      intro i ls e hm hP h
      simp only [List.length_cons] at h
      have hx := hm x (List.mem_cons_self ..)
      simp only [ref02_Bind.L3, hs x hx e (hP x hx), Option.bind_some]
      rw [if_pos (by omega), ih _ _ _ (fun z hz => hm z (List.mem_cons_of_mem _ hz)) hP (by simp; omega)]
      simp
  unfold ref02_Bind.body ref02_Bind.J2
  rw [bindT_eq]
  simp only [ref02_Same]
  by_cases h1 : t.k = 1
  · have h5 : ¬ t.k = 5 := by omega
    by_cases hc : cmpTm t v = 0
    · simp [h1, hc, bvT, zeroY]
    · have k := key t.s 0 [] d (fun _ h => h) (fun x hx => by have := bindP_sub h hx; rwa [if_neg h5] at this) (by simpa using hl)
      simp only [h1, hc, decide_true, decide_false, Bool.and_false, cond_false, and_false, if_false, k, List.nil_append]
      rfl
  · by_cases h5 : t.k = 5
    · rw [wr64 (by omega) (by omega)]
      have k := key t.s 0 [] (d + 1) (fun _ h => h) (fun x hx => by have := bindP_sub h hx; rwa [if_pos h5] at this) (by simpa using hl)
      simp only [h5, decide_true, cond_true, if_true, k, List.nil_append]
      rfl
    · have k := key t.s 0 [] d (fun _ h => h) (fun x hx => by have := bindP_sub h hx; rwa [if_neg h5] at this) (by simpa using hl)
      simp only [h1, h5, decide_false, Bool.false_and, cond_false, false_and, if_false, k, List.nil_append]
theorem bindO_pc2 : ∀ (t v : Tm) (d : Int) (r : Tm), bindO t v d = some r → PC Go.Proofs.Try.prog 85 [.agg (tmC t), .agg (tmC v), .i .i64 d] (.agg (tmC r)) :=
  fun t v => Tm.ind (p := fun t => ∀ (d : Int) (r : Tm), bindO t v d = some r → PC Go.Proofs.Try.prog 85 [.agg (tmC t), .agg (tmC v), .i .i64 d] (.agg (tmC r))) (fun t ih d r hr => by
    obtain ⟨hb, rfl⟩ := og_of hr
    refine ref02_Bind.body_pc (fun x u e => og (x ∈ t.s ∧ u = v ∧ bindP x e) (bindT x v e)) t v d (fun x u e r h => ?_) _ (ref02_Bind_ok t v d _ (fun x h e k => og_pos ⟨h, rfl, k⟩) hb)
    obtain ⟨⟨h1, rfl, h2⟩, rfl⟩ := og_of h
    exact ih x h1 _ _ (og_pos h2)) t
/-- sequent/sequentref02.Abs -/
def b48 : SCode :=
  (.seq (.ops [.op (some 2) (.bx (.t 0)),
      .op (some 3) (.bx (.t 1)),
      .op (some 4) (.alm 27 zTm)])
  (.seq (.draw [.op (some 5) (.fa (.t 2) 1),
      .op (some 6) (.ldi (.t 5) 1 false),
      .op (some 7) (.fa (.t 2) 2),
      .op (some 8) (.ldi (.t 7) 3 true),
      .op (some 9) (.ldi (.t 3) 7 true),
      .op (some 10) (.ldi (.t 2) 7 true),
      .call (some 11) (.c (.fn (.func 85) [] [])) [(.t 9), (.t 10), (.c (.i .i64 0))],
      .op (some 12) (.bsl 7 [(.t 11)]),
      .op (some 13) (.bld zTm [(0, 1, (.c (.i .u8 5))), (1, 1, (.t 6)), (2, 3, (.t 8)), (6, 1, (.t 12))]),
      .op none (.st (.t 4) 7 (.t 13))])
  .ret))
theorem s48_ok : fnOk Go.Proofs.Try.prog Go.Proofs.Try.f48 ⟨14, [.c 4 7 true], b48⟩ = true := by kernel_rfl
def ref02_Abs (v1 : Tm) (t2 : Tm) : Option (Tm) := (Option.bind (bindO t2 v1 0) fun r3 => some (Tm.mk 5 v1.n v1.y 0 [r3]))
theorem ref02_Abs_pc (v1 : Tm) (t2 : Tm) (r : Tm) (hF : ref02_Abs v1 t2 = some r) : PC Go.Proofs.Try.prog 48 [.agg (tmC v1), .agg (tmC t2)] (.agg (tmC r)) := by
  obtain ⟨z, hr⟩ : ∃ z, some r = some z := ⟨_, rfl⟩
  refine PC_z Go.Proofs.Try.func48 s48_ok (Nat.le_of_ble_eq_true rfl) fun hf => ?_
  unfold b48 start
  unfold ref02_Abs at hF
  obtain ⟨r3, h1, hF⟩ := bind_of hF hr
  try simp -dsimp only [go_sem]
  refine call_ok (bindO_pc2 t2 v1 0  _ h1) (by simp -dsimp only [go_sem]) ?_
  cases hF
  simp -dsimp only [go_sem]
/-- sequent/sequentref10.Quantified -/
def b40 : SCode :=
  (.seq (.ops [.op (some 4) (.bx (.t 1)),
      .op (some 5) (.bx (.t 2)),
      .op (some 6) (.alm 27 zTm)])
  (.seq (.draw [.op (some 7) (.mv (.t 0)),
      .op (some 8) (.fa (.t 4) 2),
      .op (some 9) (.ldi (.t 8) 3 true),
      .call (some 10) (.c (.fn (.func 77) [] [])) [(.t 9)],
      .call (some 11) (.c (.fn (.func 76) [] [])) [(.t 7), (.t 10)],
      .op (some 12) (.ldi (.t 4) 7 true),
      .op (some 13) (.ldi (.t 5) 7 true),
      .call (some 14) (.c (.fn (.func 48) [] [])) [(.t 12), (.t 13)],
      .call (some 15) (.c (.fn (.func 75) [] [])) [(.t 11), (.t 14)],
      .op none (.st (.t 6) 7 (.t 15))])
  .ret))
theorem s40_ok : fnOk Go.Proofs.Try.prog Go.Proofs.Try.f40 ⟨16, [.c 6 7 true], b40⟩ = true := by kernel_rfl
def ref10_Quantified (name1 : ByteArray) (v2 : Tm) (t3 : Tm) : Option (Tm) := (lt (ref09_Over v2.y) fun r4 => (lt (ref09_Constant name1 r4) fun r5 => (Option.bind (ref02_Abs v2 t3) fun r6 => (lt (ref02_App r5 r6) fun r7 => some r7))))
theorem ref10_Quantified_pc (name1 : ByteArray) (v2 : Tm) (t3 : Tm) (r : Tm) (hF : ref10_Quantified name1 v2 t3 = some r) : PC Go.Proofs.Try.prog 40 [.s name1, .agg (tmC v2), .agg (tmC t3)] (.agg (tmC r)) := by
  obtain ⟨z, hr⟩ : ∃ z, some r = some z := ⟨_, rfl⟩
  refine PC_z Go.Proofs.Try.func40 s40_ok (Nat.le_of_ble_eq_true rfl) fun hf => ?_
  unfold b40 start
  unfold ref10_Quantified at hF
  obtain ⟨r4, h1, hF⟩ := lt_of hF
  try simp -dsimp only [go_sem]
  have hp := (ref09_Over_pc v2.y )
  rw [h1] at hp
  refine call_ok hp (by simp -dsimp only [go_sem]) ?_
  clear hp
  obtain ⟨r5, h2, hF⟩ := lt_of hF
  try simp -dsimp only [go_sem]
  have hp := (ref09_Constant_pc name1 r4 )
  rw [h2] at hp
  refine call_ok hp (by simp -dsimp only [go_sem]) ?_
  clear hp
  obtain ⟨r6, h3, hF⟩ := bind_of hF hr
  try simp -dsimp only [go_sem]
  refine call_ok (ref02_Abs_pc v2 t3  _ h3) (by simp -dsimp only [go_sem]) ?_
  obtain ⟨r7, h4, hF⟩ := lt_of hF
  try simp -dsimp only [go_sem]
  have hp := (ref02_App_pc r5 r6 )
  rw [h4] at hp
  refine call_ok hp (by simp -dsimp only [go_sem]) ?_
  clear hp
  cases hF
  simp -dsimp only [go_sem]
/-- sequent/sequentref10.Make -/
def b8 : SCode :=
  (.seq (.ops [.op (some 4) (.bx (.t 1)),
      .op (some 5) (.bx (.t 2)),
      .op (some 6) (.alm 27 zTm),
      .op (some 7) (.mv (.c (.i .i64 0)))])
  (.seq (.ops [.op (some 11) (.ld (.t 4) 7 true),
      .op (some 12) (.ld (.t 5) 7 true),
      .op (some 13) (.bsl 7 [(.t 11), (.t 12)]),
      .call (some 14) (.c (.fn (.func 37) [] [])) [(.t 13)],
      .op (some 8) (.mv (.t 14))])
  (.seq (.seq (.ops [.op (some 15) (.mv (.t 8)),
      .op (some 16) (.bi .neq (.t 15) (.c (.i .i64 0)))])
  (.cond (.t 16) (.seq (.ops [.op (some 17) (.bld zTm []),
        .op (some 18) (.mv (.t 8)),
        .op none (.st (.t 6) 7 (.t 17)),
        .op (some 7) (.mv (.t 18))])
    .ret)
    .skip))
  (.seq (cutS (.ops [.op (some 19) (.fa (.t 4) 0),
      .op (some 20) (.ld (.t 19) 1 false),
      .op (some 21) (.bi .neq (.t 20) (.c (.i .u8 1))),
      .op (some 22) (.mv (.t 21)),
      .gd 22 false (some 23) (.op (some 23) (.ld (.t 5) 7 true)),
      .gd 22 false (some 24) (.call (some 24) (.c (.fn (.func 38) [] [])) [(.t 23)]),
      .gd 22 false (some 25) (.op (some 25) (.un .not (.t 24))),
      .op (some 26) (.pk (.t 22) (.c (.b true)) (.t 25))])
  (.cond (.t 26) (.seq (.ops [.op (some 27) (.bld zTm []),
        .op none (.st (.t 6) 7 (.t 27)),
        .op (some 7) (.mv (.c (.i .i64 20)))])
    .ret)
    .skip))
  (.seq (.ops [.op (some 29) (.mv (.t 0)),
      .op (some 30) (.ld (.t 4) 7 true),
      .op (some 31) (.ld (.t 5) 7 true),
      .call (some 32) (.c (.fn (.func 40) [] [])) [(.t 29), (.t 30), (.t 31)],
      .call (some 33) (.c (.fn (.func 39) [] [])) [(.t 32)],
      .op (some 28) (.mv (.t 33)),
      .op (some 34) (.ext (.t 28) 0),
      .op (some 35) (.ext (.t 28) 1),
      .op (some 9) (.alm 27 zTm),
      .op none (.st (.t 9) 7 (.t 34)),
      .op (some 10) (.mv (.t 35))])
  (.seq (.ops [.op (some 36) (.ld (.t 9) 7 true),
      .op (some 37) (.mv (.t 10)),
      .op none (.st (.t 6) 7 (.t 36)),
      .op (some 7) (.mv (.t 37))])
  .ret))))))
theorem s8_ok : fnOk Go.Proofs.Try.prog Go.Proofs.Try.f8 ⟨38, [.c 6 7 true, .t 7], b8⟩ = true := by kernel_rfl
def ref10_Make.J1 (name1 : ByteArray) (v2 : Tm) (t3 : Tm) (x6 : Bool) : Option (Tm × Int) := (bif x6 then some ((Tm.mk 0 (⟨#[]⟩ : ByteArray) (Ty.mk false (⟨#[]⟩ : ByteArray) []) 0 []), 20) else (Option.bind (ref10_Quantified name1 v2 t3) fun r7 => (Option.bind (ref02_Done r7) fun r8 => some (r8.1, r8.2))))
def ref10_Make (name1 : ByteArray) (v2 : Tm) (t3 : Tm) : Option (Tm × Int) := (Option.bind (ref02_Checks [v2, t3]) fun r4 => (bif (!decide (r4 = 0)) then some ((Tm.mk 0 (⟨#[]⟩ : ByteArray) (Ty.mk false (⟨#[]⟩ : ByteArray) []) 0 []), r4) else (bif (!decide (v2.k = 1)) then (ref10_Make.J1 name1 v2 t3 true) else (Option.bind (ref09_Formula t3) fun r5 => (ref10_Make.J1 name1 v2 t3 (!r5))))))
theorem ref10_Make_pc (name1 : ByteArray) (v2 : Tm) (t3 : Tm) (r : Tm × Int) (hF : ref10_Make name1 v2 t3 = some r) : PC Go.Proofs.Try.prog 8 [.s name1, .agg (tmC v2), .agg (tmC t3)] (.tup [.agg (tmC r.1), .i .i64 r.2]) := by
  obtain ⟨z, hr⟩ : ∃ z, some r = some z := ⟨_, rfl⟩
  refine PC_z Go.Proofs.Try.func8 s8_ok (Nat.le_of_ble_eq_true rfl) fun hf => ?_
  unfold b8 start
  unfold ref10_Make at hF
  obtain ⟨r4, h1, hF⟩ := bind_of hF hr
  try simp -dsimp only [go_sem]
  refine call_ok (ref02_Checks_pc [v2, t3]  _ h1) (by simp -dsimp only [go_sem]) ?_
  try simp -dsimp only [go_sem]
  refine zif_of (fun h2 => ?_) (fun h2 => ?_)
  · skip
    replace hF := cond_t h2 hF
    cases hF
    simp -dsimp only [go_sem, h2]
  · skip
    replace hF := cond_f h2 hF
    try simp -dsimp only [go_sem, h2]
    refine zcut_of (fun s => ∃ (x6 : Bool), s = ⟨[(0, .s name1), (4, .ip (tmC v2)), (5, .ip (tmC t3)), (6, .ptr 0 0), (26, .b x6)], [.box 27 ([.i .u8 0, .s (⟨#[]⟩ : ByteArray), .b false, .s (⟨#[]⟩ : ByteArray), .nils, .i .i64 0, .nils])]⟩ ∧ ref10_Make.J1 name1 v2 t3 x6 = some r) ?_ ?_
    · skip
      try simp -dsimp only [go_sem, h2]
      refine zif_of (fun h4 => ?_) (fun h4 => ?_)
      · skip
        replace hF := cond_t h4 hF
        try simp -dsimp only [go_sem, h2, h4]
        exact ⟨_, (Wks.ok (by simp -dsimp only [go_sem, h2, h4])), true, rfl, hF⟩
      · skip
        replace hF := cond_f h4 hF
        obtain ⟨r5, h5, hF⟩ := bind_of hF hr
        try simp -dsimp only [go_sem, h2, h4]
        refine call_ok (ref09_Formula_pc t3  _ h5) (by simp -dsimp only [go_sem, h2, h4]) ?_
        try simp -dsimp only [go_sem, h2, h4]
        exact ⟨_, (Wks.ok (by simp -dsimp only [go_sem, h2, h4])), (!r5), rfl, hF⟩
    clear hF
    rintro _ ⟨x6, rfl, hF⟩ hfit
    unfold ref10_Make.J1 at hF
    try simp -dsimp only [go_sem, h2]
    refine zif_of (fun h6 => ?_) (fun h6 => ?_)
    · skip
      replace hF := cond_t h6 hF
      cases hF
      simp -dsimp only [go_sem, h2, h6]
    · skip
      replace hF := cond_f h6 hF
      obtain ⟨r7, h7, hF⟩ := bind_of hF hr
      try simp -dsimp only [go_sem, h2, h6]
      refine call_ok (ref10_Quantified_pc name1 v2 t3  _ h7) (by simp -dsimp only [go_sem, h2, h6]) ?_
      obtain ⟨r8, h8, hF⟩ := bind_of hF hr
      try simp -dsimp only [go_sem, h2, h6]
      refine call_ok (ref02_Done_pc r7  _ h8) (by simp -dsimp only [go_sem, h2, h6]) ?_
      cases hF
      simp -dsimp only [go_sem, h2, h6]
theorem Make_eq (n : ByteArray) (v t : Tm) (hn : n.size ≤ 30) (hv : okT v) (ht : okT t) : ref10_Make n v t = some (mkQ n v t) := by
  have hq := quantT_bk n v t
  have e1 := ref02_Done_eq (quantT n v t) (by have := hv.2; have := ht.2; omega)
  have e2 : ref10_Quantified n v t = some (quantT n v t) := by
    unfold ref10_Quantified ref02_Abs bindO
    rw [og_pos (okT_bind ht)]
    rfl
  unfold ref10_Make ref10_Make.J1 mkQ
  rw [ref02_Checks_eq _ (by intro x hx; have := hv.2; have := ht.2; simp at hx; rcases hx with rfl | rfl <;> omega), e2]
  simp only [Option.bind_some, e1, chkTs]
  by_cases h1 : chkT v = 0
  · by_cases h2 : chkT t = 0
    · rw [ref09_Formula_eq t (by have := ht.2; omega) h2]
      by_cases h3 : v.k = 1
      · by_cases h4 : chkT (quantT n v t) = 0 <;> cases h5 : isForm t <;> simp [h1, h2, h3, h4, zeroT, zeroY]
      · simp [h1, h2, h3, zeroT, zeroY]
    · simp [h1, h2, zeroT, zeroY]
  · simp [h1, zeroT, zeroY]
/-- sequent/prove.Args -/
def b78 : SCode :=
  (.seq (.ops [.op (some 3) (.bxm 27 (.t 0)),
      .op (some 6) (.mv (.c (.nils))),
      .op (some 7) (.mv (.c (.b false)))])
  (.seq (.ops [.op (some 10) (.mv (.t 2)),
      .op (some 11) (.mks 27 7 zTm (.t 10)),
      .op (some 8) (.mv (.t 11))])
  (.seq (.seq (.ops [.op (some 12) (.mv (.t 2)),
      .op (some 13) (.bi .sub (.t 12) (.c (.i .i64 1))),
      .op (some 9) (.mv (.t 13))])
  (.block 0 (.loop (.seq (.seq (.ops [.op (some 14) (.mv (.t 9)),
      .op (some 15) (.bi .geq (.t 14) (.c (.i .i64 0)))])
  (.cond (.t 15) .skip
    (.exit 0)))
  (.seq (.block 1 (.seq (cutS (.ops [.op (some 18) (.fa (.t 3) 0),
      .op (some 19) (.ld (.t 18) 1 false),
      .op (some 20) (.bi .neq (.t 19) (.c (.i .u8 4))),
      .op (some 21) (.mv (.t 20)),
      .gd 21 false (some 22) (.op (some 22) (.fa (.t 3) 6)),
      .gd 21 false (some 23) (.op (some 23) (.ld (.t 22) 1 false)),
      .gd 21 false (some 24) (.op (some 24) (.len (.t 23))),
      .gd 21 false (some 25) (.op (some 25) (.bi .neq (.t 24) (.c (.i .i64 2)))),
      .op (some 26) (.pk (.t 21) (.c (.b true)) (.t 25))])
  (.cond (.t 26) (.seq (.ops [.op (some 6) (.mv (.c (.nils))),
        .op (some 7) (.mv (.c (.b false)))])
    .ret)
    .skip))
  (.seq (.ops [.op (some 27) (.mv (.t 8)),
      .op (some 28) (.mv (.t 9)),
      .op (some 29) (.fa (.t 3) 6),
      .op (some 30) (.ld (.t 29) 1 false),
      .op (some 31) (.ia 7 (.t 30) (.c (.i .i64 1))),
      .op (some 32) (.ld (.t 31) 7 true),
      .call (some 33) (.c (.fn (.func 52) [] [])) [(.t 32)],
      .op (some 34) (.ia 7 (.t 27) (.t 28)),
      .op none (.st (.t 34) 7 (.t 33))])
  (.ops [.op (some 35) (.fa (.t 3) 6),
      .op (some 36) (.ld (.t 35) 1 false),
      .op (some 37) (.ia 7 (.t 36) (.c (.i .i64 0))),
      .op (some 38) (.ld (.t 37) 7 true),
      .op none (.st (.t 3) 7 (.t 38))]))))
  (.ops [.op (some 16) (.mv (.t 9)),
      .op (some 17) (.bi .sub (.t 16) (.c (.i .i64 1))),
      .op (some 9) (.mv (.t 17))]))))))
  (cutS (.draw [.op (some 39) (.mv (.t 8)),
      .op (some 40) (.fa (.t 3) 0),
      .op (some 41) (.ld (.t 40) 1 false),
      .op (some 42) (.bi .eql (.t 41) (.c (.i .u8 2))),
      .op (some 43) (.mv (.t 42)),
      .gd 43 true (some 44) (.op (some 44) (.fa (.t 3) 1)),
      .gd 43 true (some 45) (.op (some 45) (.ld (.t 44) 1 false)),
      .gd 43 true (some 46) (.op (some 46) (.mv (.t 1))),
      .gd 43 true (some 47) (.op (some 47) (.bi .eql (.t 45) (.t 46))),
      .op (some 48) (.pk (.t 43) (.t 47) (.c (.b false))),
      .op (some 6) (.mv (.t 39)),
      .op (some 7) (.mv (.t 48))])
  .ret))))
theorem s78_ok : fnOk Go.Proofs.Try.prog Go.Proofs.Try.f78 ⟨49, [.t 6, .t 7], b78⟩ = true := by kernel_rfl
def prove_Args.L1 (name2 : ByteArray) : Nat → Int → Tm → (List Tm) → Option ((List Tm) × Bool)
  | 0, _, _, _ => none
  | fu + 1, i8, b6, ls7 => (bif (decide (0 ≤ i8)) then (bif ((!decide (b6.k = 4)) || (!decide ((List.length b6.s : Int) = 2))) then some ([], false) else (Option.bind (ixL b6.s 1) fun e7 => (if 0 ≤ i8 ∧ i8 < List.length ls7 then (Option.bind (ixL b6.s 0) fun e8 => ((prove_Args.L1 name2 fu) (IntKind.i64.wrap (i8 - 1)) e8 (List.set ls7 (Int.toNat i8) e7))) else none))) else some (ls7, ((decide (b6.k = 2)) && (decide (b6.n = name2)))))
def prove_Args (t1 : Tm) (name2 : ByteArray) (many3 : Int) : Option ((List Tm) × Bool) := (if 0 ≤ many3 ∧ Int.toNat many3 ≤ LIM then (prove_Args.L1 name2 (many3.toNat + 1) (IntKind.i64.wrap (many3 - 1)) t1 (List.replicate (Int.toNat many3) (Tm.mk 0 (⟨#[]⟩ : ByteArray) (Ty.mk false (⟨#[]⟩ : ByteArray) []) 0 []))) else none)
theorem prove_Args_pc (t1 : Tm) (name2 : ByteArray) (many3 : Int) (r : (List Tm) × Bool) (hF : prove_Args t1 name2 many3 = some r) : PC Go.Proofs.Try.prog 78 [.agg (tmC t1), .s name2, .i .i64 many3] (.tup [.sl false 7 (List.map tmC r.1), .b r.2]) := by
  obtain ⟨z, hr⟩ : ∃ z, some r = some z := ⟨_, rfl⟩
  refine PC_z Go.Proofs.Try.func78 s78_ok (Nat.le_of_ble_eq_true rfl) fun hf => ?_
  unfold b78 start
  unfold prove_Args at hF
  obtain ⟨h1, hF⟩ := ite_of hF hr
  have h1t := eq_true h1
  try simp -dsimp only [go_sem, h1t]
  refine zloop_of (fun m s => ∃ (i8 : Int) (b6 : Tm) (ls7 : (List Tm)), s = ⟨[(1, .s name2), (3, .ptr 0 0), (8, .row 1), (9, .i .i64 i8)], [.box 27 (tmC b6), .row 27 7 (List.map tmC ls7)]⟩ ∧ prove_Args.L1 name2 m i8 b6 ls7 = some r) (many3.toNat + 1) ⟨_, (Wks.ok (by simp -dsimp only [go_sem, h1t])), (IntKind.i64.wrap (many3 - 1)), t1, (List.replicate (Int.toNat many3) (Tm.mk 0 (⟨#[]⟩ : ByteArray) (Ty.mk false (⟨#[]⟩ : ByteArray) []) 0 [])), rfl, hF⟩ ?_
  clear hF
  rintro fu1 _ ⟨i8, b6, ls7, rfl, hF⟩ hfit
  cases fu1 with
  | zero => unfold prove_Args.L1 at hF; cases hF
  | succ fu1 =>
    unfold prove_Args.L1 at hF
    try simp -dsimp only [go_sem, h1t]
    refine zif_of (fun h2 => ?_) (fun h2 => ?_)
    · skip
      replace hF := cond_t h2 hF
      try simp -dsimp only [go_sem, h1t, h2]
      refine zcut_of (fun s => s = ⟨[(1, .s name2), (3, .ptr 0 0), (8, .row 1), (9, .i .i64 i8), (26, .b ((!decide (b6.k = 4)) || (!decide ((List.length b6.s : Int) = 2))))], [.box 27 (tmC b6), .row 27 7 (List.map tmC ls7)]⟩) ?_ ?_
      · skip
        try simp -dsimp only [go_sem, h1t, h2]
        refine zif_of (fun h3 => ?_) (fun h3 => ?_)
        · skip
          try simp -dsimp only [go_sem, h1t, h2, h3]
          exact ⟨_, (Wks.ok (by simp -dsimp only [go_sem, h1t, h2, h3])), rfl⟩
        · skip
          try simp -dsimp only [go_sem, h1t, h2, h3]
          exact ⟨_, (Wks.ok (by simp -dsimp only [go_sem, h1t, h2, h3])), rfl⟩
      rintro _ rfl hfit
      try simp -dsimp only [go_sem, h1t, h2]
      refine zif_of (fun h4 => ?_) (fun h4 => ?_)
      · skip
        replace hF := cond_t h4 hF
        cases hF
        simp -dsimp only [go_sem, h1t, h2, h4]
      · skip
        replace hF := cond_f h4 hF
        obtain ⟨e7, h5, hF⟩ := bind_of hF hr
        obtain ⟨h6, h5⟩ := ixL_of h5
        simp only [Int.reduceToNat] at h5
        try simp -dsimp only [go_sem, h1t, h2, h4, h5]
        refine call_ok (twinT_pc e7) (by simp -dsimp only [go_sem, h1t, h2, h4, h5]) ?_
        obtain ⟨⟨h7, h8⟩, hF⟩ := ite_of hF hr
        obtain ⟨yh9, h9⟩ := get_some (show (Int.toNat i8) < List.length ls7 by omega)
        have h7t := eq_true h7
        have h8t := eq_true h8
        obtain ⟨e8, h10, hF⟩ := bind_of hF hr
        obtain ⟨h11, h10⟩ := ixL_of h10
        simp only [Int.reduceToNat] at h10
        try simp -dsimp only [go_sem, h1t, h2, h4, h5, h7t, h8t, h9, h10]
        exact ⟨fu1, _, Nat.lt_succ_self _, (Wks.ok (by simp -dsimp only [go_sem, h1t, h2, h4, h5, h7t, h8t, h9, h10])), (IntKind.i64.wrap (i8 - 1)), e8, (List.set ls7 (Int.toNat i8) e7), rfl, hF⟩
    · skip
      replace hF := cond_f h2 hF
      try simp -dsimp only [go_sem, h1t, h2]
      refine zcut_of (fun s => s = ⟨[(6, .row 1), (7, .b ((decide (b6.k = 2)) && (decide (b6.n = name2))))], [.gone, .row 27 7 (List.map tmC ls7)]⟩) ?_ ?_
      · skip
        try simp -dsimp only [go_sem, h1t, h2]
        refine zif_of (fun h12 => ?_) (fun h12 => ?_)
        · skip
          try simp -dsimp only [go_sem, h1t, h2, h12]
          exact ⟨_, (Wks.ok (by simp -dsimp only [go_sem, h1t, h2, h12])), rfl⟩
        · skip
          try simp -dsimp only [go_sem, h1t, h2, h12]
          exact ⟨_, (Wks.ok (by simp -dsimp only [go_sem, h1t, h2, h12])), rfl⟩
      rintro _ rfl hfit
      cases hF
      simp -dsimp only [go_sem, h1t, h2]
/-- sequent/quantifier.body -/
def b41 : SCode :=
  (.seq (.ops [.op (some 2) (.bx (.t 0)),
      .op (some 4) (.alm 27 zTm),
      .op (some 5) (.mv (.c (.b false)))])
  (.seq (.ops [.op (some 8) (.ld (.t 2) 7 true),
      .op (some 9) (.mv (.t 1)),
      .call (some 10) (.c (.fn (.func 78) [] [])) [(.t 8), (.t 9), (.c (.i .i64 1))],
      .op (some 7) (.mv (.t 10)),
      .op (some 11) (.ext (.t 7) 0),
      .op (some 12) (.ext (.t 7) 1),
      .op (some 6) (.mv (.t 11)),
      .op (some 5) (.mv (.t 12))])
  (.seq (cutS (.ops [.op (some 13) (.mv (.t 5)),
      .op (some 14) (.un .not (.t 13)),
      .op (some 15) (.mv (.t 14)),
      .gd 15 false (some 16) (.op (some 16) (.mv (.t 6))),
      .gd 15 false (some 17) (.op (some 17) (.ia 7 (.t 16) (.c (.i .i64 0)))),
      .gd 15 false (some 18) (.op (some 18) (.fa (.t 17) 0)),
      .gd 15 false (some 19) (.op (some 19) (.ld (.t 18) 1 false)),
      .gd 15 false (some 20) (.op (some 20) (.bi .neq (.t 19) (.c (.i .u8 5)))),
      .op (some 21) (.pk (.t 15) (.c (.b true)) (.t 20))])
  (.cond (.t 21) (.seq (.ops [.op (some 22) (.bld zTm []),
        .op none (.st (.t 4) 7 (.t 22)),
        .op (some 5) (.mv (.c (.b false)))])
    .ret)
    .skip))
  (.seq (.ops [.op (some 23) (.mv (.t 6)),
      .op (some 24) (.ia 7 (.t 23) (.c (.i .i64 0))),
      .op (some 25) (.ld (.t 24) 7 true),
      .op none (.st (.t 4) 7 (.t 25)),
      .op (some 5) (.mv (.c (.b true)))])
  .ret))))
theorem s41_ok : fnOk Go.Proofs.Try.prog Go.Proofs.Try.f41 ⟨26, [.c 4 7 true, .t 5], b41⟩ = true := by kernel_rfl
def quantifier_body.J1 (r3 : ((List Tm) × Bool)) (x5 : Bool) : Option (Tm × Bool) := (bif x5 then some ((Tm.mk 0 (⟨#[]⟩ : ByteArray) (Ty.mk false (⟨#[]⟩ : ByteArray) []) 0 []), false) else (Option.bind (ixL r3.1 0) fun e6 => some (e6, true)))
def quantifier_body (t1 : Tm) (name2 : ByteArray) : Option (Tm × Bool) := (Option.bind (prove_Args t1 name2 1) fun r3 => (bif (!r3.2) then (quantifier_body.J1 r3 true) else (Option.bind (ixL r3.1 0) fun e4 => (quantifier_body.J1 r3 (!decide (e4.k = 5))))))
theorem quantifier_body_pc (t1 : Tm) (name2 : ByteArray) (r : Tm × Bool) (hF : quantifier_body t1 name2 = some r) : PC Go.Proofs.Try.prog 41 [.agg (tmC t1), .s name2] (.tup [.agg (tmC r.1), .b r.2]) := by
  obtain ⟨z, hr⟩ : ∃ z, some r = some z := ⟨_, rfl⟩
  refine PC_z Go.Proofs.Try.func41 s41_ok (Nat.le_of_ble_eq_true rfl) fun hf => ?_
  unfold b41 start
  unfold quantifier_body at hF
  obtain ⟨r3, h1, hF⟩ := bind_of hF hr
  try simp -dsimp only [go_sem]
  refine call_ok (prove_Args_pc t1 name2 1  _ h1) (by simp -dsimp only [go_sem]) ?_
  try simp -dsimp only [go_sem]
  refine zcut_of (fun s => ∃ (x5 : Bool), s = ⟨[(4, .ptr 0 0), (6, .sl false 7 (List.map tmC r3.1)), (21, .b x5)], [.box 27 ([.i .u8 0, .s (⟨#[]⟩ : ByteArray), .b false, .s (⟨#[]⟩ : ByteArray), .nils, .i .i64 0, .nils])]⟩ ∧ quantifier_body.J1 r3 x5 = some r) ?_ ?_
  · skip
    try simp -dsimp only [go_sem]
    refine zif_of (fun h3 => ?_) (fun h3 => ?_)
    · skip
      replace hF := cond_t h3 hF
      try simp -dsimp only [go_sem, h3]
      exact ⟨_, (Wks.ok (by simp -dsimp only [go_sem, h3])), true, rfl, hF⟩
    · skip
      replace hF := cond_f h3 hF
      obtain ⟨e4, h4, hF⟩ := bind_of hF hr
      obtain ⟨h5, h4⟩ := ixL_of h4
      simp only [Int.reduceToNat] at h4
      try simp -dsimp only [go_sem, h3, h4]
      exact ⟨_, (Wks.ok (by simp -dsimp only [go_sem, h3, h4])), (!decide (e4.k = 5)), rfl, hF⟩
  clear hF
  rintro _ ⟨x5, rfl, hF⟩ hfit
  unfold quantifier_body.J1 at hF
  try simp -dsimp only [go_sem]
  refine zif_of (fun h6 => ?_) (fun h6 => ?_)
  · skip
    replace hF := cond_t h6 hF
    cases hF
    simp -dsimp only [go_sem, h6]
  · skip
    replace hF := cond_f h6 hF
    obtain ⟨e6, h7, hF⟩ := bind_of hF hr
    obtain ⟨h8, h7⟩ := ixL_of h7
    simp only [Int.reduceToNat] at h7
    cases hF
    simp -dsimp only [go_sem, h6, h7]
/-- sequent/quantifier.DestForall -/
def b11 : SCode :=
  (.seq (.ops [.op (some 1) (.bx (.t 0)),
      .op (some 2) (.alm 27 zTm),
      .op (some 3) (.mv (.c (.b false)))])
  (.seq (.ops [.op (some 4) (.ld (.t 1) 7 true),
      .call (some 5) (.c (.fn (.func 41) [] [])) [(.t 4), (.c (.s { data := #[33] }))],
      .op (some 6) (.ext (.t 5) 0),
      .op (some 7) (.ext (.t 5) 1),
      .op none (.st (.t 2) 7 (.t 6)),
      .op (some 3) (.mv (.t 7))])
  .ret))
theorem s11_ok : fnOk Go.Proofs.Try.prog Go.Proofs.Try.f11 ⟨8, [.c 2 7 true, .t 3], b11⟩ = true := by kernel_rfl
def quantifier_DestForall (t1 : Tm) : Option (Tm × Bool) := (Option.bind (quantifier_body t1 (⟨#[33]⟩ : ByteArray)) fun r2 => some (r2.1, r2.2))
theorem quantifier_DestForall_pc (t1 : Tm) (r : Tm × Bool) (hF : quantifier_DestForall t1 = some r) : PC Go.Proofs.Try.prog 11 [.agg (tmC t1)] (.tup [.agg (tmC r.1), .b r.2]) := by
  obtain ⟨z, hr⟩ : ∃ z, some r = some z := ⟨_, rfl⟩
  refine PC_z Go.Proofs.Try.func11 s11_ok (Nat.le_of_ble_eq_true rfl) fun hf => ?_
  unfold b11 start
  unfold quantifier_DestForall at hF
  obtain ⟨r2, h1, hF⟩ := bind_of hF hr
  try simp -dsimp only [go_sem]
  refine call_ok (quantifier_body_pc t1 (⟨#[33]⟩ : ByteArray)  _ h1) (by simp -dsimp only [go_sem]) ?_
  cases hF
  simp -dsimp only [go_sem]
/-- sequent/quantifier.DestExists -/
def b13 : SCode :=
  (.seq (.ops [.op (some 1) (.bx (.t 0)),
      .op (some 2) (.alm 27 zTm),
      .op (some 3) (.mv (.c (.b false)))])
  (.seq (.ops [.op (some 4) (.ld (.t 1) 7 true),
      .call (some 5) (.c (.fn (.func 41) [] [])) [(.t 4), (.c (.s { data := #[63] }))],
      .op (some 6) (.ext (.t 5) 0),
      .op (some 7) (.ext (.t 5) 1),
      .op none (.st (.t 2) 7 (.t 6)),
      .op (some 3) (.mv (.t 7))])
  .ret))
theorem s13_ok : fnOk Go.Proofs.Try.prog Go.Proofs.Try.f13 ⟨8, [.c 2 7 true, .t 3], b13⟩ = true := by kernel_rfl
def quantifier_DestExists (t1 : Tm) : Option (Tm × Bool) := (Option.bind (quantifier_body t1 (⟨#[63]⟩ : ByteArray)) fun r2 => some (r2.1, r2.2))
theorem quantifier_DestExists_pc (t1 : Tm) (r : Tm × Bool) (hF : quantifier_DestExists t1 = some r) : PC Go.Proofs.Try.prog 13 [.agg (tmC t1)] (.tup [.agg (tmC r.1), .b r.2]) := by
  obtain ⟨z, hr⟩ : ∃ z, some r = some z := ⟨_, rfl⟩
  refine PC_z Go.Proofs.Try.func13 s13_ok (Nat.le_of_ble_eq_true rfl) fun hf => ?_
  unfold b13 start
  unfold quantifier_DestExists at hF
  obtain ⟨r2, h1, hF⟩ := bind_of hF hr
  try simp -dsimp only [go_sem]
  refine call_ok (quantifier_body_pc t1 (⟨#[63]⟩ : ByteArray)  _ h1) (by simp -dsimp only [go_sem]) ?_
  cases hF
  simp -dsimp only [go_sem]
/-- sequent/quantifier.DestUnique -/
def b14 : SCode :=
  (.seq (.ops [.op (some 1) (.bx (.t 0)),
      .op (some 2) (.alm 27 zTm),
      .op (some 3) (.mv (.c (.b false)))])
  (.seq (.ops [.op (some 4) (.ld (.t 1) 7 true),
      .call (some 5) (.c (.fn (.func 41) [] [])) [(.t 4), (.c (.s { data := #[63, 33] }))],
      .op (some 6) (.ext (.t 5) 0),
      .op (some 7) (.ext (.t 5) 1),
      .op none (.st (.t 2) 7 (.t 6)),
      .op (some 3) (.mv (.t 7))])
  .ret))
theorem s14_ok : fnOk Go.Proofs.Try.prog Go.Proofs.Try.f14 ⟨8, [.c 2 7 true, .t 3], b14⟩ = true := by kernel_rfl
def quantifier_DestUnique (t1 : Tm) : Option (Tm × Bool) := (Option.bind (quantifier_body t1 (⟨#[63, 33]⟩ : ByteArray)) fun r2 => some (r2.1, r2.2))
theorem quantifier_DestUnique_pc (t1 : Tm) (r : Tm × Bool) (hF : quantifier_DestUnique t1 = some r) : PC Go.Proofs.Try.prog 14 [.agg (tmC t1)] (.tup [.agg (tmC r.1), .b r.2]) := by
  obtain ⟨z, hr⟩ : ∃ z, some r = some z := ⟨_, rfl⟩
  refine PC_z Go.Proofs.Try.func14 s14_ok (Nat.le_of_ble_eq_true rfl) fun hf => ?_
  unfold b14 start
  unfold quantifier_DestUnique at hF
  obtain ⟨r2, h1, hF⟩ := bind_of hF hr
  try simp -dsimp only [go_sem]
  refine call_ok (quantifier_body_pc t1 (⟨#[63, 33]⟩ : ByteArray)  _ h1) (by simp -dsimp only [go_sem]) ?_
  cases hF
  simp -dsimp only [go_sem]
/-- sequent/sequentref09.Dest -/
def b42 : SCode :=
  (.seq (.ops [.op (some 3) (.bxm 27 (.t 0)),
      .op (some 6) (.mv (.c (.nils))),
      .op (some 7) (.mv (.c (.b false)))])
  (.seq (.ops [.op (some 8) (.mv (.c (.nils)))])
  (.seq (.seq (.ops [.op (some 9) (.mv (.c (.i .i64 0)))])
  (.block 0 (.loop (.seq (.seq (.ops [.op (some 10) (.mv (.t 9)),
      .op (some 11) (.mv (.t 2)),
      .op (some 12) (.bi .lss (.t 10) (.t 11))])
  (.cond (.t 12) .skip
    (.exit 0)))
  (.seq (.block 1 (.seq (cutS (.ops [.op (some 15) (.fa (.t 3) 0),
      .op (some 16) (.ld (.t 15) 1 false),
      .op (some 17) (.bi .neq (.t 16) (.c (.i .u8 4))),
      .op (some 18) (.mv (.t 17)),
      .gd 18 false (some 19) (.op (some 19) (.fa (.t 3) 6)),
      .gd 18 false (some 20) (.op (some 20) (.ld (.t 19) 1 false)),
      .gd 18 false (some 21) (.op (some 21) (.len (.t 20))),
      .gd 18 false (some 22) (.op (some 22) (.bi .neq (.t 21) (.c (.i .i64 2)))),
      .op (some 23) (.pk (.t 18) (.c (.b true)) (.t 22))])
  (.cond (.t 23) (.seq (.ops [.op (some 6) (.mv (.c (.nils))),
        .op (some 7) (.mv (.c (.b false)))])
    .ret)
    .skip))
  (.seq (.ops [.op (some 24) (.fa (.t 3) 6),
      .op (some 25) (.ld (.t 24) 1 false),
      .op (some 26) (.ia 7 (.t 25) (.c (.i .i64 1))),
      .op (some 27) (.ld (.t 26) 7 true),
      .call (some 28) (.c (.fn (.func 58) [] [])) [(.t 27)],
      .op (some 29) (.bsl 7 [(.t 28)]),
      .op (some 30) (.mv (.t 8)),
      .op (some 31) (.apt 27 7 (.t 29) (.t 30)),
      .op (some 8) (.mv (.t 31))])
  (.ops [.op (some 32) (.fa (.t 3) 6),
      .op (some 33) (.ld (.t 32) 1 false),
      .op (some 34) (.ia 7 (.t 33) (.c (.i .i64 0))),
      .op (some 35) (.ld (.t 34) 7 true),
      .op none (.st (.t 3) 7 (.t 35))]))))
  (.ops [.op (some 13) (.mv (.t 9)),
      .op (some 14) (.bi .add (.t 13) (.c (.i .i64 1))),
      .op (some 9) (.mv (.t 14))]))))))
  (.seq (cutS (.ops [.op (some 36) (.fa (.t 3) 0),
      .op (some 37) (.ld (.t 36) 1 false),
      .op (some 38) (.bi .neq (.t 37) (.c (.i .u8 2))),
      .op (some 39) (.mv (.t 38)),
      .gd 39 false (some 40) (.op (some 40) (.fa (.t 3) 1)),
      .gd 39 false (some 41) (.op (some 41) (.ld (.t 40) 1 false)),
      .gd 39 false (some 42) (.op (some 42) (.mv (.t 1))),
      .gd 39 false (some 43) (.op (some 43) (.bi .neq (.t 41) (.t 42))),
      .op (some 44) (.pk (.t 39) (.c (.b true)) (.t 43))])
  (.cond (.t 44) (.seq (.ops [.op (some 6) (.mv (.c (.nils))),
        .op (some 7) (.mv (.c (.b false)))])
    .ret)
    .skip))
  (.seq (.ops [.op (some 45) (.mv (.t 8)),
      .op (some 6) (.mv (.t 45)),
      .op (some 7) (.mv (.c (.b true)))])
  .ret)))))
theorem s42_ok : fnOk Go.Proofs.Try.prog Go.Proofs.Try.f42 ⟨46, [.t 6, .t 7], b42⟩ = true := by kernel_rfl
def ref09_Dest.L1 (name2 : ByteArray) (many3 : Int) : Nat → (List Tm) → Int → Tm → Option ((List Tm) × Bool)
  | 0, _, _, _ => none
  | fu + 1, l7, i8, b6 => (bif (decide (i8 < many3)) then (bif ((!decide (b6.k = 4)) || (!decide ((List.length b6.s : Int) = 2))) then some ([], false) else (Option.bind (ixL b6.s 1) fun e7 => (if 1 + List.length l7 ≤ LIM then (Option.bind (ixL b6.s 0) fun e8 => ((ref09_Dest.L1 name2 many3 fu) ([e7] ++ l7) (IntKind.i64.wrap (i8 + 1)) e8)) else none))) else (bif ((!decide (b6.k = 2)) || (!decide (b6.n = name2))) then some ([], false) else some (l7, true)))
def ref09_Dest (t1 : Tm) (name2 : ByteArray) (many3 : Int) : Option ((List Tm) × Bool) := (ref09_Dest.L1 name2 many3 (many3.toNat + 1) [] 0 t1)
theorem ref09_Dest_pc (t1 : Tm) (name2 : ByteArray) (many3 : Int) (r : (List Tm) × Bool) (hF : ref09_Dest t1 name2 many3 = some r) : PC Go.Proofs.Try.prog 42 [.agg (tmC t1), .s name2, .i .i64 many3] (.tup [.sl false 7 (List.map tmC r.1), .b r.2]) := by
  obtain ⟨z, hr⟩ : ∃ z, some r = some z := ⟨_, rfl⟩
  refine PC_z Go.Proofs.Try.func42 s42_ok (Nat.le_of_ble_eq_true rfl) fun hf => ?_
  unfold b42 start
  unfold ref09_Dest at hF
  try simp -dsimp only [go_sem]
  refine zloop_of (fun m s => ∃ (l7 : (List Tm)) (i8 : Int) (b6 : Tm), s = ⟨[(1, .s name2), (2, .i .i64 many3), (3, .ptr 0 0), (8, .sl false 7 (List.map tmC l7)), (9, .i .i64 i8)], [.box 27 (tmC b6)]⟩ ∧ ref09_Dest.L1 name2 many3 m l7 i8 b6 = some r) (many3.toNat + 1) ⟨_, (Wks.ok (by simp -dsimp only [go_sem])), [], 0, t1, rfl, hF⟩ ?_
  clear hF
  rintro fu1 _ ⟨l7, i8, b6, rfl, hF⟩ hfit
  cases fu1 with
  | zero => unfold ref09_Dest.L1 at hF; cases hF
  | succ fu1 =>
    unfold ref09_Dest.L1 at hF
    try simp -dsimp only [go_sem]
    refine zif_of (fun h1 => ?_) (fun h1 => ?_)
    · skip
      replace hF := cond_t h1 hF
      try simp -dsimp only [go_sem, h1]
      refine zcut_of (fun s => s = ⟨[(1, .s name2), (2, .i .i64 many3), (3, .ptr 0 0), (8, .sl false 7 (List.map tmC l7)), (9, .i .i64 i8), (23, .b ((!decide (b6.k = 4)) || (!decide ((List.length b6.s : Int) = 2))))], [.box 27 (tmC b6)]⟩) ?_ ?_
      · skip
        try simp -dsimp only [go_sem, h1]
        refine zif_of (fun h2 => ?_) (fun h2 => ?_)
        · skip
          try simp -dsimp only [go_sem, h1, h2]
          exact ⟨_, (Wks.ok (by simp -dsimp only [go_sem, h1, h2])), rfl⟩
        · skip
          try simp -dsimp only [go_sem, h1, h2]
          exact ⟨_, (Wks.ok (by simp -dsimp only [go_sem, h1, h2])), rfl⟩
      rintro _ rfl hfit
      try simp -dsimp only [go_sem, h1]
      refine zif_of (fun h3 => ?_) (fun h3 => ?_)
      · skip
        replace hF := cond_t h3 hF
        cases hF
        simp -dsimp only [go_sem, h1, h3]
      · skip
        replace hF := cond_f h3 hF
        obtain ⟨e7, h4, hF⟩ := bind_of hF hr
        obtain ⟨h5, h4⟩ := ixL_of h4
        simp only [Int.reduceToNat] at h4
        try simp -dsimp only [go_sem, h1, h3, h4]
        refine call_ok (twinT_pc2 e7) (by simp -dsimp only [go_sem, h1, h3, h4]) ?_
        obtain ⟨h6, hF⟩ := ite_of hF hr
        have h6t := eq_true h6
        obtain ⟨e8, h7, hF⟩ := bind_of hF hr
        obtain ⟨h8, h7⟩ := ixL_of h7
        simp only [Int.reduceToNat] at h7
        try simp -dsimp only [go_sem, h1, h3, h4, h6t, h7]
        exact ⟨fu1, _, Nat.lt_succ_self _, (Wks.ok (by simp -dsimp only [go_sem, h1, h3, h4, h6t, h7])), ([e7] ++ l7), (IntKind.i64.wrap (i8 + 1)), e8, rfl, hF⟩
    · skip
      replace hF := cond_f h1 hF
      try simp -dsimp only [go_sem, h1]
      refine zcut_of (fun s => s = ⟨[(8, .sl false 7 (List.map tmC l7)), (44, .b ((!decide (b6.k = 2)) || (!decide (b6.n = name2))))], []⟩) ?_ ?_
      · skip
        try simp -dsimp only [go_sem, h1]
        refine zif_of (fun h9 => ?_) (fun h9 => ?_)
        · skip
          try simp -dsimp only [go_sem, h1, h9]
          exact ⟨_, (Wks.ok (by simp -dsimp only [go_sem, h1, h9])), rfl⟩
        · skip
          try simp -dsimp only [go_sem, h1, h9]
          exact ⟨_, (Wks.ok (by simp -dsimp only [go_sem, h1, h9])), rfl⟩
      rintro _ rfl hfit
      try simp -dsimp only [go_sem, h1]
      refine zif_of (fun h10 => ?_) (fun h10 => ?_)
      · skip
        replace hF := cond_t h10 hF
        cases hF
        simp -dsimp only [go_sem, h1, h10]
      · skip
        replace hF := cond_f h10 hF
        cases hF
        simp -dsimp only [go_sem, h1, h10]
/-- sequent/sequentref10.Body -/
def b12 : SCode :=
  (.seq (.ops [.op (some 2) (.bx (.t 0)),
      .op (some 4) (.alm 27 zTm),
      .op (some 5) (.mv (.c (.b false)))])
  (.seq (.ops [.op (some 9) (.ld (.t 2) 7 true),
      .op (some 10) (.mv (.t 1)),
      .call (some 11) (.c (.fn (.func 42) [] [])) [(.t 9), (.t 10), (.c (.i .i64 1))],
      .op (some 8) (.mv (.t 11)),
      .op (some 12) (.ext (.t 8) 0),
      .op (some 13) (.ext (.t 8) 1),
      .op (some 6) (.mv (.t 12)),
      .op (some 7) (.mv (.t 13))])
  (.seq (cutS (.ops [.op (some 14) (.mv (.t 7)),
      .op (some 15) (.un .not (.t 14)),
      .op (some 16) (.mv (.t 15)),
      .gd 16 false (some 17) (.op (some 17) (.mv (.t 6))),
      .gd 16 false (some 18) (.op (some 18) (.ia 7 (.t 17) (.c (.i .i64 0)))),
      .gd 16 false (some 19) (.op (some 19) (.fa (.t 18) 0)),
      .gd 16 false (some 20) (.op (some 20) (.ld (.t 19) 1 false)),
      .gd 16 false (some 21) (.op (some 21) (.bi .neq (.t 20) (.c (.i .u8 5)))),
      .op (some 22) (.pk (.t 16) (.c (.b true)) (.t 21))])
  (.cond (.t 22) (.seq (.ops [.op (some 23) (.bld zTm []),
        .op none (.st (.t 4) 7 (.t 23)),
        .op (some 5) (.mv (.c (.b false)))])
    .ret)
    .skip))
  (.seq (.ops [.op (some 24) (.mv (.t 6)),
      .op (some 25) (.ia 7 (.t 24) (.c (.i .i64 0))),
      .op (some 26) (.ld (.t 25) 7 true),
      .op none (.st (.t 4) 7 (.t 26)),
      .op (some 5) (.mv (.c (.b true)))])
  .ret))))
theorem s12_ok : fnOk Go.Proofs.Try.prog Go.Proofs.Try.f12 ⟨27, [.c 4 7 true, .t 5], b12⟩ = true := by kernel_rfl
def ref10_Body.J1 (r3 : ((List Tm) × Bool)) (x5 : Bool) : Option (Tm × Bool) := (bif x5 then some ((Tm.mk 0 (⟨#[]⟩ : ByteArray) (Ty.mk false (⟨#[]⟩ : ByteArray) []) 0 []), false) else (Option.bind (ixL r3.1 0) fun e6 => some (e6, true)))
def ref10_Body (t1 : Tm) (name2 : ByteArray) : Option (Tm × Bool) := (Option.bind (ref09_Dest t1 name2 1) fun r3 => (bif (!r3.2) then (ref10_Body.J1 r3 true) else (Option.bind (ixL r3.1 0) fun e4 => (ref10_Body.J1 r3 (!decide (e4.k = 5))))))
theorem ref10_Body_pc (t1 : Tm) (name2 : ByteArray) (r : Tm × Bool) (hF : ref10_Body t1 name2 = some r) : PC Go.Proofs.Try.prog 12 [.agg (tmC t1), .s name2] (.tup [.agg (tmC r.1), .b r.2]) := by
  obtain ⟨z, hr⟩ : ∃ z, some r = some z := ⟨_, rfl⟩
  refine PC_z Go.Proofs.Try.func12 s12_ok (Nat.le_of_ble_eq_true rfl) fun hf => ?_
  unfold b12 start
  unfold ref10_Body at hF
  obtain ⟨r3, h1, hF⟩ := bind_of hF hr
  try simp -dsimp only [go_sem]
  refine call_ok (ref09_Dest_pc t1 name2 1  _ h1) (by simp -dsimp only [go_sem]) ?_
  try simp -dsimp only [go_sem]
  refine zcut_of (fun s => ∃ (x5 : Bool), s = ⟨[(4, .ptr 0 0), (6, .sl false 7 (List.map tmC r3.1)), (22, .b x5)], [.box 27 ([.i .u8 0, .s (⟨#[]⟩ : ByteArray), .b false, .s (⟨#[]⟩ : ByteArray), .nils, .i .i64 0, .nils])]⟩ ∧ ref10_Body.J1 r3 x5 = some r) ?_ ?_
  · skip
    try simp -dsimp only [go_sem]
    refine zif_of (fun h3 => ?_) (fun h3 => ?_)
    · skip
      replace hF := cond_t h3 hF
      try simp -dsimp only [go_sem, h3]
      exact ⟨_, (Wks.ok (by simp -dsimp only [go_sem, h3])), true, rfl, hF⟩
    · skip
      replace hF := cond_f h3 hF
      obtain ⟨e4, h4, hF⟩ := bind_of hF hr
      obtain ⟨h5, h4⟩ := ixL_of h4
      simp only [Int.reduceToNat] at h4
      try simp -dsimp only [go_sem, h3, h4]
      exact ⟨_, (Wks.ok (by simp -dsimp only [go_sem, h3, h4])), (!decide (e4.k = 5)), rfl, hF⟩
  clear hF
  rintro _ ⟨x5, rfl, hF⟩ hfit
  unfold ref10_Body.J1 at hF
  try simp -dsimp only [go_sem]
  refine zif_of (fun h6 => ?_) (fun h6 => ?_)
  · skip
    replace hF := cond_t h6 hF
    cases hF
    simp -dsimp only [go_sem, h6]
  · skip
    replace hF := cond_f h6 hF
    obtain ⟨e6, h7, hF⟩ := bind_of hF hr
    obtain ⟨h8, h7⟩ := ixL_of h7
    simp only [Int.reduceToNat] at h7
    cases hF
    simp -dsimp only [go_sem, h6, h7]
theorem body_same (t : Tm) (n : ByteArray) : ∃ r, quantifier_body t n = some r ∧ ref10_Body t n = some r := by
  unfold quantifier_body ref10_Body prove_Args ref09_Dest quantifier_body.J1 ref10_Body.J1
  have w0 : IntKind.i64.wrap (1 - 1) = 0 := by decide
  have w1 : IntKind.i64.wrap (0 - 1) = -1 := by decide
  have w2 : IntKind.i64.wrap (0 + 1) = 1 := by decide
  have hl : (1 : Int).toNat = 1 := rfl
  have h2 : (0 ≤ (1 : Int) ∧ 1 ≤ LIM) := ⟨by omega, by simp [LIM]⟩
  simp only [hl]
  rw [if_pos h2, w0]
  by_cases hc : t.k = 4 ∧ t.s.length = 2
  · obtain ⟨c1, c2⟩ := hc
    obtain ⟨f, x, hs⟩ : ∃ f x, t.s = [f, x] := by
      match t.s, c2 with
      | [f, x], _ => exact ⟨f, x, rfl⟩
    have i0 : ixL [f, x] 0 = some f := rfl
    have i1 : ixL [f, x] 1 = some x := rfl
    have i2 : ∀ y : Tm, ixL [y] 0 = some y := fun _ => rfl
    have e1 : ((List.replicate 1 (Tm.mk 0 ⟨#[]⟩ (Ty.mk false ⟨#[]⟩ []) 0 [])).set (Int.toNat 0) x) = [x] := rfl
    have e2 : 1 + 0 ≤ LIM := by simp [LIM]
    have e3 : ¬ (0 : Int) ≤ -1 := by omega
    have e4 : ((2 : Nat) : Int) = 2 := rfl
    have e5 : (0 : Int) ≤ 0 ∧ (0 : Int) < ((1 : Nat) : Int) := by omega
    simp only [prove_Args.L1, ref09_Dest.L1, c1, hs, i0, i1, w1, w2, e1, List.length_cons, List.length_nil, Nat.zero_add, Nat.reduceAdd, e4, decide_true, Int.le_refl, cond_true, Bool.not_true, Bool.or_self, cond_false, Option.bind_some, e2, if_true, e3, decide_false, Int.lt_irrefl, List.length_replicate, e5, and_self, List.cons_append, List.nil_append, Int.reduceLT, i2]
    by_cases h5 : f.k = 2 <;> by_cases h6 : f.n = n <;> by_cases h7 : x.k = 5 <;> simp [h5, h6, h7, i2]
  · have : (!decide (t.k = 4) || !decide ((t.s.length : Int) = 2)) = true := by
      have e0 : ((t.s.length : Int) = 2) ↔ t.s.length = 2 := by omega
      simp only [e0]
      by_cases h5 : t.k = 4 <;> by_cases h6 : t.s.length = 2 <;> simp_all
    simp [prove_Args.L1, ref09_Dest.L1, this]
structure Sq where
  hs : (List Tm)
  c : Tm
def sqC (x : Sq) : List AV := [.sl false 7 (List.map tmC x.hs), .i .u8 x.c.k, .s x.c.n, .b x.c.y.v, .s x.c.y.n, .sl false 3 (List.map tyC x.c.y.a), .i .i64 x.c.i, .sl false 7 (List.map tmC x.c.s)]
theorem sqC_eq (x : Sq) : sqC x = [.sl false 7 (List.map tmC x.hs), .i .u8 x.c.k, .s x.c.n, .b x.c.y.v, .s x.c.y.n, .sl false 3 (List.map tyC x.c.y.a), .i .i64 x.c.i, .sl false 7 (List.map tmC x.c.s)] := rfl
attribute [go_sem] sqC_eq
theorem sqC_pure (l : List Sq) : pureE (List.map sqC l) = true := pureE_map (fun x => by simp -dsimp only [go_sem]) l
theorem sqC_len (l : List Sq) : lenE 8 (List.map sqC l) = True := by simp [lenE, sqC]
theorem sqC_sb (r : Nat) (l : List Sq) : sbE r .u (List.map sqC l) = List.map sqC l := sbE_map (fun x => by simp -dsimp only [go_sem]) l
attribute [go_sem] sqC_pure sqC_len sqC_sb
/-- sequent/sequentref08.Great -/
def b35 : SCode :=
  (.seq (.ops [.op (some 1) (.bx (.t 0)),
      .op (some 2) (.mv (.c (.b false)))])
  (.seq (.ops [.op (some 5) (.fa (.t 1) 1),
      .op (some 6) (.ld (.t 5) 7 true),
      .call (some 7) (.c (.fn (.func 22) [] [])) [(.t 6)],
      .op (some 3) (.mv (.t 7))])
  (.seq (.seq (.ops [.op (some 4) (.mv (.c (.i .i64 0)))])
  (.block 0 (.loop (.seq (cutS (.ops [.op (some 8) (.mv (.t 4)),
      .op (some 9) (.fa (.t 1) 0),
      .op (some 10) (.ld (.t 9) 1 false),
      .op (some 11) (.len (.t 10)),
      .op (some 12) (.bi .lss (.t 8) (.t 11)),
      .op (some 13) (.mv (.t 12)),
      .gd 13 true (some 14) (.op (some 14) (.mv (.t 4))),
      .gd 13 true (some 15) (.op (some 15) (.bi .lss (.t 14) (.c (.i .i64 80)))),
      .op (some 16) (.pk (.t 13) (.t 15) (.c (.b false)))])
  (.cond (.t 16) .skip
    (.exit 0)))
  (cutS (.block 1 (.ops [.op (some 19) (.mv (.t 3)),
      .op (some 20) (.mv (.t 19)),
      .gd 20 false (some 21) (.op (some 21) (.fa (.t 1) 0)),
      .gd 20 false (some 22) (.op (some 22) (.ld (.t 21) 1 false)),
      .gd 20 false (some 23) (.op (some 23) (.mv (.t 4))),
      .gd 20 false (some 24) (.op (some 24) (.ia 7 (.t 22) (.t 23))),
      .gd 20 false (some 25) (.op (some 25) (.ld (.t 24) 7 true)),
      .gd 20 false (some 26) (.call (some 26) (.c (.fn (.func 22) [] [])) [(.t 25)]),
      .op (some 27) (.pk (.t 20) (.c (.b true)) (.t 26)),
      .op (some 3) (.mv (.t 27))]))
  (.ops [.op (some 17) (.mv (.t 4)),
      .op (some 18) (.bi .add (.t 17) (.c (.i .i64 1))),
      .op (some 4) (.mv (.t 18))]))))))
  (cutS (.ops [.op (some 28) (.mv (.t 3)),
      .op (some 29) (.mv (.t 28)),
      .gd 29 false (some 30) (.op (some 30) (.fa (.t 1) 0)),
      .gd 29 false (some 31) (.op (some 31) (.ld (.t 30) 1 false)),
      .gd 29 false (some 32) (.op (some 32) (.len (.t 31))),
      .gd 29 false (some 33) (.op (some 33) (.bi .gtr (.t 32) (.c (.i .i64 80)))),
      .op (some 34) (.pk (.t 29) (.c (.b true)) (.t 33)),
      .op (some 2) (.mv (.t 34))])
  .ret))))
theorem s35_ok : fnOk Go.Proofs.Try.prog Go.Proofs.Try.f35 ⟨35, [.t 2], b35⟩ = true := by kernel_rfl
def ref08_Great.J8 (bk1 : Nat → Bool → Option (Bool)) (s1 : Sq) (n10 : Bool) (i7 : Nat) (e8 : Tm) : Option (Bool) := (bk1 (i7 + 1) n10)
def ref08_Great.L1 (s1 : Sq) : List Tm → Nat → Bool → Option (Bool)
  | [], i7, n6 => some (n6 || (decide (80 < (List.length s1.hs : Int))))
  | e8 :: rest, i7, n6 => (bif (decide ((i7 : Int) < 80)) then (bif n6 then (ref08_Great.J8 (ref08_Great.L1 s1 rest) s1 true i7 e8) else (Option.bind (ref02_Great e8) fun r9 => (ref08_Great.J8 (ref08_Great.L1 s1 rest) s1 r9 i7 e8))) else some (n6 || (decide (80 < (List.length s1.hs : Int)))))
def ref08_Great (s1 : Sq) : Option (Bool) := (Option.bind (ref02_Great s1.c) fun r2 => (ref08_Great.L1 s1 s1.hs 0 r2))
theorem ref08_Great_pc (s1 : Sq) (r : Bool) (hF : ref08_Great s1 = some r) : PC Go.Proofs.Try.prog 35 [.agg (sqC s1)] (.b r) := by
  obtain ⟨z, hr⟩ : ∃ z, some r = some z := ⟨_, rfl⟩
  refine PC_z Go.Proofs.Try.func35 s35_ok (Nat.le_of_ble_eq_true rfl) fun hf => ?_
  unfold b35 start
  unfold ref08_Great at hF
  obtain ⟨r2, h1, hF⟩ := bind_of hF hr
  try simp -dsimp only [go_sem]
  refine call_ok (ref02_Great_pc s1.c  _ h1) (by simp -dsimp only [go_sem]) ?_
  try simp -dsimp only [go_sem]
  refine zloop_of (fun m s => ∃ (rest1 : List Tm) (i7 : Nat) (n6 : Bool), List.drop i7 s1.hs = rest1 ∧ List.length rest1 = m ∧ s = ⟨[(1, .ip (sqC s1)), (3, .b n6), (4, .i .i64 (i7 : Int))], []⟩ ∧ ref08_Great.L1 s1 rest1 i7 n6 = some r) (List.length s1.hs) ⟨_, (Wks.ok (by simp -dsimp only [go_sem])), s1.hs, 0, r2, rfl, rfl, rfl, hF⟩ ?_
  clear hF
  rintro _ _ ⟨rest1, i7, n6, hd1, rfl, rfl, hF⟩ hfit
  have h4 : List.length s1.hs ≤ LIM := by
    have h := hfit.t 1; simp only [e_lk, Nat.reduceBEq, cond_true, cond_false, Fit, FitL, ty_eq, tm_eq, List.length_map, sqC_eq] at h; omega
  cases rest1 with
  | nil =>
    have h2 := dn hd1
    unfold ref08_Great.L1 at hF
    try simp -dsimp only [go_sem, h2]
    refine zcut_of (fun s => s = ⟨[(1, .ip (sqC s1)), (3, .b n6), (4, .i .i64 (i7 : Int)), (16, .b false)], []⟩) ?_ ?_
    · skip
      try simp -dsimp only [go_sem, h2]
      exact ⟨_, (Wks.ok (by simp -dsimp only [go_sem, h2])), rfl⟩
    rintro _ rfl hfit
    try simp -dsimp only [go_sem, h2]
    refine zcut_of (fun s => s = ⟨[(2, .b (n6 || (decide (80 < (List.length s1.hs : Int)))))], []⟩) ?_ ?_
    · skip
      try simp -dsimp only [go_sem, h2]
      refine zif_of (fun h6 => ?_) (fun h6 => ?_)
      · skip
        try simp -dsimp only [go_sem, h2, h6]
        exact ⟨_, (Wks.ok (by simp -dsimp only [go_sem, h2, h6])), rfl⟩
      · skip
        try simp -dsimp only [go_sem, h2, h6]
        exact ⟨_, (Wks.ok (by simp -dsimp only [go_sem, h2, h6])), rfl⟩
    rintro _ rfl hfit
    cases hF
    simp -dsimp only [go_sem, h2]
  | cons e8 rest1 =>
    obtain ⟨h2, h3, hd1⟩ := dc hd1
    have h5 := wi h2 h4
    unfold ref08_Great.L1 at hF
    try simp -dsimp only [go_sem, h2, h3, h5]
    refine zcut_of (fun s => s = ⟨[(1, .ip (sqC s1)), (3, .b n6), (4, .i .i64 (i7 : Int)), (14, .i .i64 (i7 : Int)), (15, .b (decide ((i7 : Int) < 80))), (16, .b (decide ((i7 : Int) < 80)))], []⟩) ?_ ?_
    · skip
      try simp -dsimp only [go_sem, h2, h3, h5]
      exact ⟨_, (Wks.ok (by simp -dsimp only [go_sem, h2, h3, h5])), rfl⟩
    rintro _ rfl hfit
    try simp -dsimp only [go_sem, h2, h3, h5]
    refine zif_of (fun h7 => ?_) (fun h7 => ?_)
    · skip
      replace hF := cond_t h7 hF
      try simp -dsimp only [go_sem, h2, h3, h5, h7]
      refine zcut_of (fun s => ∃ (n10 : Bool), s = ⟨[(1, .ip (sqC s1)), (3, .b n10), (4, .i .i64 (i7 : Int)), (14, .i .i64 (i7 : Int)), (15, .b (decide ((i7 : Int) < 80)))], []⟩ ∧ ref08_Great.J8 (ref08_Great.L1 s1 rest1) s1 n10 i7 e8 = some r) ?_ ?_
      · skip
        try simp -dsimp only [go_sem, h2, h3, h5, h7]
        refine zif_of (fun h9 => ?_) (fun h9 => ?_)
        · skip
          replace hF := cond_t h9 hF
          try simp -dsimp only [go_sem, h2, h3, h5, h7, h9]
          exact ⟨_, (Wks.ok (by simp -dsimp only [go_sem, h2, h3, h5, h7, h9])), true, rfl, hF⟩
        · skip
          replace hF := cond_f h9 hF
          obtain ⟨r9, h10, hF⟩ := bind_of hF hr
          try simp -dsimp only [go_sem, h2, h3, h5, h7, h9]
          refine call_ok (ref02_Great_pc e8  _ h10) (by simp -dsimp only [go_sem, h2, h3, h5, h7, h9]) ?_
          try simp -dsimp only [go_sem, h2, h3, h5, h7, h9]
          exact ⟨_, (Wks.ok (by simp -dsimp only [go_sem, h2, h3, h5, h7, h9])), r9, rfl, hF⟩
      clear hF
      rintro _ ⟨n10, rfl, hF⟩ hfit
      unfold ref08_Great.J8 at hF
      try simp -dsimp only [go_sem, h2, h3, h5, h7]
      exact ⟨List.length rest1, _, Nat.lt_succ_self _, (Wks.ok (by simp -dsimp only [go_sem, h2, h3, h5, h7])), rest1, i7 + 1, n10, hd1, rfl, rfl, hF⟩
    · skip
      replace hF := cond_f h7 hF
      try simp -dsimp only [go_sem, h2, h3, h5, h7]
      refine zcut_of (fun s => s = ⟨[(2, .b (n6 || (decide (80 < (List.length s1.hs : Int)))))], []⟩) ?_ ?_
      · skip
        try simp -dsimp only [go_sem, h2, h3, h5, h7]
        refine zif_of (fun h11 => ?_) (fun h11 => ?_)
        · skip
          try simp -dsimp only [go_sem, h2, h3, h5, h7, h11]
          exact ⟨_, (Wks.ok (by simp -dsimp only [go_sem, h2, h3, h5, h7, h11])), rfl⟩
        · skip
          try simp -dsimp only [go_sem, h2, h3, h5, h7, h11]
          exact ⟨_, (Wks.ok (by simp -dsimp only [go_sem, h2, h3, h5, h7, h11])), rfl⟩
      rintro _ rfl hfit
      cases hF
      simp -dsimp only [go_sem, h2, h3, h5, h7]
/-- sequent/sequentlaw10.great -/
def b6 : SCode :=
  (.seq (.ops [.op (some 4) (.mv (.c (.b false)))])
  (.seq (.seq (.ops [.op (some 5) (.mv (.c (.i .i64 0)))])
  (.block 0 (.loop (.seq (.seq (.ops [.op (some 7) (.mv (.t 5)),
      .op (some 8) (.mv (.t 0)),
      .op (some 9) (.len (.t 8)),
      .op (some 10) (.bi .lss (.t 7) (.t 9))])
  (.cond (.t 10) .skip
    (.exit 0)))
  (.seq (.block 1 (.seq (.ops [.op (some 13) (.mv (.t 0)),
      .op (some 14) (.mv (.t 5)),
      .op (some 15) (.ia 8 (.t 13) (.t 14)),
      .op (some 16) (.ld (.t 15) 8 true),
      .call (some 17) (.c (.fn (.func 35) [] [])) [(.t 16)]])
  (.cond (.t 17) (.seq (.ops [.op (some 4) (.mv (.c (.b true)))])
    .ret)
    .skip)))
  (.ops [.op (some 11) (.mv (.t 5)),
      .op (some 12) (.bi .add (.t 11) (.c (.i .i64 1))),
      .op (some 5) (.mv (.t 12))]))))))
  (.seq (.seq (.ops [.op (some 6) (.mv (.c (.i .i64 0)))])
  (.block 2 (.loop (.seq (.seq (.ops [.op (some 18) (.mv (.t 6)),
      .op (some 19) (.mv (.t 1)),
      .op (some 20) (.len (.t 19)),
      .op (some 21) (.bi .lss (.t 18) (.t 20))])
  (.cond (.t 21) .skip
    (.exit 2)))
  (.seq (.block 3 (.seq (.ops [.op (some 24) (.mv (.t 1)),
      .op (some 25) (.mv (.t 6)),
      .op (some 26) (.ia 7 (.t 24) (.t 25)),
      .op (some 27) (.ld (.t 26) 7 true),
      .call (some 28) (.c (.fn (.func 22) [] [])) [(.t 27)]])
  (.cond (.t 28) (.seq (.ops [.op (some 4) (.mv (.c (.b true)))])
    .ret)
    .skip)))
  (.ops [.op (some 22) (.mv (.t 6)),
      .op (some 23) (.bi .add (.t 22) (.c (.i .i64 1))),
      .op (some 6) (.mv (.t 23))]))))))
  (.seq (.ops [.op (some 4) (.mv (.c (.b false)))])
  .ret))))
theorem s6_ok : fnOk Go.Proofs.Try.prog Go.Proofs.Try.f6 ⟨29, [.t 4], b6⟩ = true := by kernel_rfl
def law10_great.L2 (l2 : (List Tm)) : List Tm → Nat → Option (Bool)
  | [], i10 => some false
  | e11 :: rest, i10 => (Option.bind (ref02_Great e11) fun r12 => (bif r12 then some true else ((law10_great.L2 l2 rest) (i10 + 1))))
def law10_great.L1 (s1 : (List Sq)) (l2 : (List Tm)) : List Sq → Nat → Option (Bool)
  | [], i5 => (law10_great.L2 l2 l2 0)
  | e6 :: rest, i5 => (Option.bind (ref08_Great e6) fun r7 => (bif r7 then some true else ((law10_great.L1 s1 l2 rest) (i5 + 1))))
def law10_great (s1 : (List Sq)) (l2 : (List Tm)) : Option (Bool) := (law10_great.L1 s1 l2 s1 0)
theorem law10_great_pc (s1 : (List Sq)) (l2 : (List Tm)) (r : Bool) (hF : law10_great s1 l2 = some r) : PC Go.Proofs.Try.prog 6 [.sl false 8 (List.map sqC s1), .sl false 7 (List.map tmC l2)] (.b r) := by
  obtain ⟨z, hr⟩ : ∃ z, some r = some z := ⟨_, rfl⟩
  refine PC_z Go.Proofs.Try.func6 s6_ok (Nat.le_of_ble_eq_true rfl) fun hf => ?_
  unfold b6 start
  unfold law10_great at hF
  try simp -dsimp only [go_sem]
  refine zloop_of (fun m s => ∃ (rest1 : List Sq) (i5 : Nat), List.drop i5 s1 = rest1 ∧ List.length rest1 = m ∧ s = ⟨[(0, .sl false 8 (List.map sqC s1)), (1, .sl false 7 (List.map tmC l2)), (5, .i .i64 (i5 : Int))], []⟩ ∧ law10_great.L1 s1 l2 rest1 i5 = some r) (List.length s1) ⟨_, (Wks.ok (by simp -dsimp only [go_sem])), s1, 0, rfl, rfl, rfl, hF⟩ ?_
  clear hF
  rintro _ _ ⟨rest1, i5, hd1, rfl, rfl, hF⟩ hfit
  have h3 : List.length s1 ≤ LIM := by
    have h := hfit.t 0; simp only [e_lk, Nat.reduceBEq, cond_true, cond_false, Fit, FitL, ty_eq, tm_eq, List.length_map, sqC_eq] at h; omega
  cases rest1 with
  | nil =>
    have h1 := dn hd1
    unfold law10_great.L1 at hF
    try simp -dsimp only [go_sem, h1]
    refine zloop_of (fun m s => ∃ (rest2 : List Tm) (i10 : Nat), List.drop i10 l2 = rest2 ∧ List.length rest2 = m ∧ s = ⟨[(1, .sl false 7 (List.map tmC l2)), (6, .i .i64 (i10 : Int))], []⟩ ∧ law10_great.L2 l2 rest2 i10 = some r) (List.length l2) ⟨_, (Wks.ok (by simp -dsimp only [go_sem, h1])), l2, 0, rfl, rfl, rfl, hF⟩ ?_
    clear hF
    rintro _ _ ⟨rest2, i10, hd2, rfl, rfl, hF⟩ hfit
    have h7 : List.length l2 ≤ LIM := by
      have h := hfit.t 1; simp only [e_lk, Nat.reduceBEq, cond_true, cond_false, Fit, FitL, ty_eq, tm_eq, List.length_map, sqC_eq] at h; omega
    cases rest2 with
    | nil =>
      have h5 := dn hd2
      unfold law10_great.L2 at hF
      cases hF
      simp -dsimp only [go_sem, h1, h5]
    | cons e11 rest2 =>
      obtain ⟨h5, h6, hd2⟩ := dc hd2
      have h8 := wi h5 h7
      unfold law10_great.L2 at hF
      obtain ⟨r12, h9, hF⟩ := bind_of hF hr
      try simp -dsimp only [go_sem, h1, h5, h6, h8]
      refine call_ok (ref02_Great_pc e11  _ h9) (by simp -dsimp only [go_sem, h1, h5, h6, h8]) ?_
      try simp -dsimp only [go_sem, h1, h5, h6, h8]
      refine zif_of (fun h10 => ?_) (fun h10 => ?_)
      · skip
        replace hF := cond_t h10 hF
        cases hF
        simp -dsimp only [go_sem, h1, h5, h6, h8, h10]
      · skip
        replace hF := cond_f h10 hF
        try simp -dsimp only [go_sem, h1, h5, h6, h8, h10]
        exact ⟨List.length rest2, _, Nat.lt_succ_self _, (Wks.ok (by simp -dsimp only [go_sem, h1, h5, h6, h8, h10])), rest2, i10 + 1, hd2, rfl, rfl, hF⟩
  | cons e6 rest1 =>
    obtain ⟨h1, h2, hd1⟩ := dc hd1
    have h4 := wi h1 h3
    unfold law10_great.L1 at hF
    obtain ⟨r7, h11, hF⟩ := bind_of hF hr
    try simp -dsimp only [go_sem, h1, h2, h4]
    refine call_ok (ref08_Great_pc e6  _ h11) (by simp -dsimp only [go_sem, h1, h2, h4]) ?_
    try simp -dsimp only [go_sem, h1, h2, h4]
    refine zif_of (fun h12 => ?_) (fun h12 => ?_)
    · skip
      replace hF := cond_t h12 hF
      cases hF
      simp -dsimp only [go_sem, h1, h2, h4, h12]
    · skip
      replace hF := cond_f h12 hF
      try simp -dsimp only [go_sem, h1, h2, h4, h12]
      exact ⟨List.length rest1, _, Nat.lt_succ_self _, (Wks.ok (by simp -dsimp only [go_sem, h1, h2, h4, h12])), rest1, i5 + 1, hd1, rfl, rfl, hF⟩
/-- sequent/sequentlaw10.QuantifierTerms -/
def b3 : SCode :=
  (.seq (.ops [.op (some 2) (.bx (.t 0)),
      .op (some 3) (.bx (.t 1)),
      .op (some 4) (.mv (.c (.b false)))])
  (.seq (.seq (.ops [.op (some 29) (.ld (.t 2) 7 true),
      .op (some 30) (.ld (.t 3) 7 true),
      .op (some 31) (.bsl 7 [(.t 29), (.t 30)]),
      .call (some 32) (.c (.fn (.func 6) [] [])) [(.c (.nils)), (.t 31)]])
  (.cond (.t 32) (.seq (.ops [.op (some 4) (.mv (.c (.b true)))])
    .ret)
    .skip))
  (.seq (.ops [.op (some 34) (.ld (.t 2) 7 true),
      .op (some 35) (.ld (.t 3) 7 true),
      .call (some 36) (.c (.fn (.func 7) [] [])) [(.t 34), (.t 35)],
      .op (some 33) (.mv (.t 36)),
      .op (some 37) (.ext (.t 33) 0),
      .op (some 38) (.ext (.t 33) 1),
      .op (some 5) (.alm 27 zTm),
      .op none (.st (.t 5) 7 (.t 37)),
      .op (some 6) (.mv (.t 38))])
  (.seq (.ops [.op (some 40) (.ld (.t 2) 7 true),
      .op (some 41) (.ld (.t 3) 7 true),
      .call (some 42) (.c (.fn (.func 8) [] [])) [(.c (.s { data := #[33] })), (.t 40), (.t 41)],
      .op (some 39) (.mv (.t 42)),
      .op (some 43) (.ext (.t 39) 0),
      .op (some 44) (.ext (.t 39) 1),
      .op (some 7) (.alm 27 zTm),
      .op none (.st (.t 7) 7 (.t 43)),
      .op (some 8) (.mv (.t 44))])
  (.seq (.ops [.op (some 46) (.ld (.t 2) 7 true),
      .op (some 47) (.ld (.t 3) 7 true),
      .call (some 48) (.c (.fn (.func 9) [] [])) [(.t 46), (.t 47)],
      .op (some 45) (.mv (.t 48)),
      .op (some 49) (.ext (.t 45) 0),
      .op (some 50) (.ext (.t 45) 1),
      .op (some 9) (.alm 27 zTm),
      .op none (.st (.t 9) 7 (.t 49)),
      .op (some 10) (.mv (.t 50))])
  (.seq (.ops [.op (some 52) (.ld (.t 2) 7 true),
      .op (some 53) (.ld (.t 3) 7 true),
      .call (some 54) (.c (.fn (.func 8) [] [])) [(.c (.s { data := #[63] })), (.t 52), (.t 53)],
      .op (some 51) (.mv (.t 54)),
      .op (some 55) (.ext (.t 51) 0),
      .op (some 56) (.ext (.t 51) 1),
      .op (some 11) (.alm 27 zTm),
      .op none (.st (.t 11) 7 (.t 55)),
      .op (some 12) (.mv (.t 56))])
  (.seq (.ops [.op (some 58) (.ld (.t 2) 7 true),
      .op (some 59) (.ld (.t 3) 7 true),
      .call (some 60) (.c (.fn (.func 10) [] [])) [(.t 58), (.t 59)],
      .op (some 57) (.mv (.t 60)),
      .op (some 61) (.ext (.t 57) 0),
      .op (some 62) (.ext (.t 57) 1),
      .op (some 13) (.alm 27 zTm),
      .op none (.st (.t 13) 7 (.t 61)),
      .op (some 14) (.mv (.t 62))])
  (.seq (.ops [.op (some 64) (.ld (.t 2) 7 true),
      .op (some 65) (.ld (.t 3) 7 true),
      .call (some 66) (.c (.fn (.func 8) [] [])) [(.c (.s { data := #[63, 33] })), (.t 64), (.t 65)],
      .op (some 63) (.mv (.t 66)),
      .op (some 67) (.ext (.t 63) 0),
      .op (some 68) (.ext (.t 63) 1),
      .op (some 15) (.alm 27 zTm),
      .op none (.st (.t 15) 7 (.t 67)),
      .op (some 16) (.mv (.t 68))])
  (.seq (.ops [.op (some 70) (.ld (.t 3) 7 true),
      .call (some 71) (.c (.fn (.func 11) [] [])) [(.t 70)],
      .op (some 69) (.mv (.t 71)),
      .op (some 72) (.ext (.t 69) 0),
      .op (some 73) (.ext (.t 69) 1),
      .op (some 17) (.alm 27 zTm),
      .op none (.st (.t 17) 7 (.t 72)),
      .op (some 18) (.mv (.t 73))])
  (.seq (.ops [.op (some 75) (.ld (.t 3) 7 true),
      .call (some 76) (.c (.fn (.func 12) [] [])) [(.t 75), (.c (.s { data := #[33] }))],
      .op (some 74) (.mv (.t 76)),
      .op (some 77) (.ext (.t 74) 0),
      .op (some 78) (.ext (.t 74) 1),
      .op (some 19) (.alm 27 zTm),
      .op none (.st (.t 19) 7 (.t 77)),
      .op (some 20) (.mv (.t 78))])
  (.seq (.ops [.op (some 80) (.ld (.t 3) 7 true),
      .call (some 81) (.c (.fn (.func 13) [] [])) [(.t 80)],
      .op (some 79) (.mv (.t 81)),
      .op (some 82) (.ext (.t 79) 0),
      .op (some 83) (.ext (.t 79) 1),
      .op (some 21) (.alm 27 zTm),
      .op none (.st (.t 21) 7 (.t 82)),
      .op (some 22) (.mv (.t 83))])
  (.seq (.ops [.op (some 85) (.ld (.t 3) 7 true),
      .call (some 86) (.c (.fn (.func 12) [] [])) [(.t 85), (.c (.s { data := #[63] }))],
      .op (some 84) (.mv (.t 86)),
      .op (some 87) (.ext (.t 84) 0),
      .op (some 88) (.ext (.t 84) 1),
      .op (some 23) (.alm 27 zTm),
      .op none (.st (.t 23) 7 (.t 87)),
      .op (some 24) (.mv (.t 88))])
  (.seq (.ops [.op (some 90) (.ld (.t 3) 7 true),
      .call (some 91) (.c (.fn (.func 14) [] [])) [(.t 90)],
      .op (some 89) (.mv (.t 91)),
      .op (some 92) (.ext (.t 89) 0),
      .op (some 93) (.ext (.t 89) 1),
      .op (some 25) (.alm 27 zTm),
      .op none (.st (.t 25) 7 (.t 92)),
      .op (some 26) (.mv (.t 93))])
  (.seq (.ops [.op (some 95) (.ld (.t 3) 7 true),
      .call (some 96) (.c (.fn (.func 12) [] [])) [(.t 95), (.c (.s { data := #[63, 33] }))],
      .op (some 94) (.mv (.t 96)),
      .op (some 97) (.ext (.t 94) 0),
      .op (some 98) (.ext (.t 94) 1),
      .op (some 27) (.alm 27 zTm),
      .op none (.st (.t 27) 7 (.t 97)),
      .op (some 28) (.mv (.t 98))])
  (cutS (.ops (.op (some 99) (.ld (.t 5) 7 true) ::
      .op (some 100) (.ld (.t 7) 7 true) ::
      .call (some 101) (.c (.fn (.func 15) [] [])) [(.t 99), (.t 100)] ::
      .op (some 102) (.mv (.t 101)) ::
      .gd 102 true (some 103) (.op (some 103) (.mv (.t 6))) ::
      .gd 102 true (some 104) (.op (some 104) (.mv (.t 8))) ::
      .gd 102 true (some 105) (.op (some 105) (.bi .eql (.t 103) (.t 104))) ::
      .op (some 106) (.pk (.t 102) (.t 105) (.c (.b false))) ::
      .op (some 107) (.mv (.t 106)) ::
      .gd 107 true (some 108) (.op (some 108) (.ld (.t 9) 7 true)) ::
      .gd 107 true (some 109) (.op (some 109) (.ld (.t 11) 7 true)) ::
      .gd 107 true (some 110) (.call (some 110) (.c (.fn (.func 15) [] [])) [(.t 108), (.t 109)]) ::
      .op (some 111) (.pk (.t 107) (.t 110) (.c (.b false))) ::
      .op (some 112) (.mv (.t 111)) ::
      .gd 112 true (some 113) (.op (some 113) (.mv (.t 10))) ::
      .gd 112 true (some 114) (.op (some 114) (.mv (.t 12))) ::
      .gd 112 true (some 115) (.op (some 115) (.bi .eql (.t 113) (.t 114))) ::
      .op (some 116) (.pk (.t 112) (.t 115) (.c (.b false))) ::
      .op (some 117) (.mv (.t 116)) ::
      .gd 117 true (some 118) (.op (some 118) (.ld (.t 13) 7 true)) ::
      .gd 117 true (some 119) (.op (some 119) (.ld (.t 15) 7 true)) ::
      .gd 117 true (some 120) (.call (some 120) (.c (.fn (.func 15) [] [])) [(.t 118), (.t 119)]) ::
      .op (some 121) (.pk (.t 117) (.t 120) (.c (.b false))) ::
      .op (some 122) (.mv (.t 121)) ::
      .gd 122 true (some 123) (.op (some 123) (.mv (.t 14))) ::
      .gd 122 true (some 124) (.op (some 124) (.mv (.t 16))) ::
      .gd 122 true (some 125) (.op (some 125) (.bi .eql (.t 123) (.t 124))) ::
      .op (some 126) (.pk (.t 122) (.t 125) (.c (.b false))) ::
      .op (some 127) (.mv (.t 126)) ::
      .gd 127 true (some 128) (.op (some 128) (.ld (.t 17) 7 true)) ::
      .gd 127 true (some 129) (.op (some 129) (.ld (.t 19) 7 true)) ::
      .gd 127 true (some 130) (.call (some 130) (.c (.fn (.func 15) [] [])) [(.t 128), (.t 129)]) ::
      .op (some 131) (.pk (.t 127) (.t 130) (.c (.b false))) ::
      .op (some 132) (.mv (.t 131)) ::
      .gd 132 true (some 133) (.op (some 133) (.mv (.t 18))) ::
      .gd 132 true (some 134) (.op (some 134) (.mv (.t 20))) ::
      .gd 132 true (some 135) (.op (some 135) (.bib .eql (.t 133) (.t 134))) ::
      .op (some 136) (.pk (.t 132) (.t 135) (.c (.b false))) ::
      .op (some 137) (.mv (.t 136)) ::
      .gd 137 true (some 138) (.op (some 138) (.ld (.t 21) 7 true)) ::
      .gd 137 true (some 139) (.op (some 139) (.ld (.t 23) 7 true)) ::
      .gd 137 true (some 140) (.call (some 140) (.c (.fn (.func 15) [] [])) [(.t 138), (.t 139)]) ::
      .op (some 141) (.pk (.t 137) (.t 140) (.c (.b false))) ::
      .op (some 142) (.mv (.t 141)) ::
      .gd 142 true (some 143) (.op (some 143) (.mv (.t 22))) ::
      .gd 142 true (some 144) (.op (some 144) (.mv (.t 24))) ::
      .gd 142 true (some 145) (.op (some 145) (.bib .eql (.t 143) (.t 144))) ::
      .op (some 146) (.pk (.t 142) (.t 145) (.c (.b false))) ::
      .op (some 147) (.mv (.t 146)) ::
      .gd 147 true (some 148) (.op (some 148) (.ld (.t 25) 7 true)) ::
      .gd 147 true (some 149) (.op (some 149) (.ld (.t 27) 7 true)) ::
      .gd 147 true (some 150) (.call (some 150) (.c (.fn (.func 15) [] [])) [(.t 148), (.t 149)]) ::
      .op (some 151) (.pk (.t 147) (.t 150) (.c (.b false))) ::
      .op (some 152) (.mv (.t 151)) ::
      .gd 152 true (some 153) (.op (some 153) (.mv (.t 26))) ::
      .gd 152 true (some 154) (.op (some 154) (.mv (.t 28))) ::
      .gd 152 true (some 155) (.op (some 155) (.bib .eql (.t 153) (.t 154))) ::
      .op (some 156) (.pk (.t 152) (.t 155) (.c (.b false))) ::
      .op (some 4) (.mv (.t 156)) ::
      []))
  .ret)))))))))))))))
theorem s3_ok : fnOk Go.Proofs.Try.prog Go.Proofs.Try.f3 ⟨157, [.t 4], b3⟩ = true := by kernel_rfl
def law10_QuantifierTerms (x1 : Tm) (x2 : Tm) : Option (Bool) := (Option.bind (law10_great [] [x1, x2]) fun r3 => (bif r3 then some true else (Option.bind (quantifier_MkForall x1 x2) fun r4 => (Option.bind (ref10_Make (⟨#[33]⟩ : ByteArray) x1 x2) fun r5 => (Option.bind (quantifier_MkExists x1 x2) fun r6 => (Option.bind (ref10_Make (⟨#[63]⟩ : ByteArray) x1 x2) fun r7 => (Option.bind (quantifier_MkUnique x1 x2) fun r8 => (Option.bind (ref10_Make (⟨#[63, 33]⟩ : ByteArray) x1 x2) fun r9 => (Option.bind (quantifier_DestForall x2) fun r10 => (Option.bind (ref10_Body x2 (⟨#[33]⟩ : ByteArray)) fun r11 => (Option.bind (quantifier_DestExists x2) fun r12 => (Option.bind (ref10_Body x2 (⟨#[63]⟩ : ByteArray)) fun r13 => (Option.bind (quantifier_DestUnique x2) fun r14 => (Option.bind (ref10_Body x2 (⟨#[63, 33]⟩ : ByteArray)) fun r15 => some ((ref02_Same r4.1 r5.1) && ((decide (r4.2 = r5.2)) && ((ref02_Same r6.1 r7.1) && ((decide (r6.2 = r7.2)) && ((ref02_Same r8.1 r9.1) && ((decide (r8.2 = r9.2)) && ((ref02_Same r10.1 r11.1) && ((r10.2 == r11.2) && ((ref02_Same r12.1 r13.1) && ((r12.2 == r13.2) && ((ref02_Same r14.1 r15.1) && (r14.2 == r15.2))))))))))))))))))))))))))
theorem law10_QuantifierTerms_pc (x1 : Tm) (x2 : Tm) (r : Bool) (hF : law10_QuantifierTerms x1 x2 = some r) : PC Go.Proofs.Try.prog 3 [.agg (tmC x1), .agg (tmC x2)] (.b r) := by
  obtain ⟨z, hr⟩ : ∃ z, some r = some z := ⟨_, rfl⟩
  refine PC_z Go.Proofs.Try.func3 s3_ok (Nat.le_of_ble_eq_true rfl) fun hf => ?_
  unfold b3 start
  unfold law10_QuantifierTerms at hF
  obtain ⟨r3, h1, hF⟩ := bind_of hF hr
  try simp -dsimp only [go_sem]
  refine call_ok (law10_great_pc [] [x1, x2]  _ h1) (by simp -dsimp only [go_sem]) ?_
  try simp -dsimp only [go_sem]
  refine zif_of (fun h2 => ?_) (fun h2 => ?_)
  · skip
    replace hF := cond_t h2 hF
    cases hF
    simp -dsimp only [go_sem, h2]
  · skip
    replace hF := cond_f h2 hF
    obtain ⟨r4, h3, hF⟩ := bind_of hF hr
    try simp -dsimp only [go_sem, h2]
    refine call_ok (quantifier_MkForall_pc x1 x2  _ h3) (by simp -dsimp only [go_sem, h2]) ?_
    obtain ⟨r5, h4, hF⟩ := bind_of hF hr
    try simp -dsimp only [go_sem, h2]
    refine call_ok (ref10_Make_pc (⟨#[33]⟩ : ByteArray) x1 x2  _ h4) (by simp -dsimp only [go_sem, h2]) ?_
    obtain ⟨r6, h5, hF⟩ := bind_of hF hr
    try simp -dsimp only [go_sem, h2]
    refine call_ok (quantifier_MkExists_pc x1 x2  _ h5) (by simp -dsimp only [go_sem, h2]) ?_
    obtain ⟨r7, h6, hF⟩ := bind_of hF hr
    try simp -dsimp only [go_sem, h2]
    refine call_ok (ref10_Make_pc (⟨#[63]⟩ : ByteArray) x1 x2  _ h6) (by simp -dsimp only [go_sem, h2]) ?_
    obtain ⟨r8, h7, hF⟩ := bind_of hF hr
    try simp -dsimp only [go_sem, h2]
    refine call_ok (quantifier_MkUnique_pc x1 x2  _ h7) (by simp -dsimp only [go_sem, h2]) ?_
    obtain ⟨r9, h8, hF⟩ := bind_of hF hr
    try simp -dsimp only [go_sem, h2]
    refine call_ok (ref10_Make_pc (⟨#[63, 33]⟩ : ByteArray) x1 x2  _ h8) (by simp -dsimp only [go_sem, h2]) ?_
    obtain ⟨r10, h9, hF⟩ := bind_of hF hr
    try simp -dsimp only [go_sem, h2]
    refine call_ok (quantifier_DestForall_pc x2  _ h9) (by simp -dsimp only [go_sem, h2]) ?_
    obtain ⟨r11, h10, hF⟩ := bind_of hF hr
    try simp -dsimp only [go_sem, h2]
    refine call_ok (ref10_Body_pc x2 (⟨#[33]⟩ : ByteArray)  _ h10) (by simp -dsimp only [go_sem, h2]) ?_
    obtain ⟨r12, h11, hF⟩ := bind_of hF hr
    try simp -dsimp only [go_sem, h2]
    refine call_ok (quantifier_DestExists_pc x2  _ h11) (by simp -dsimp only [go_sem, h2]) ?_
    obtain ⟨r13, h12, hF⟩ := bind_of hF hr
    try simp -dsimp only [go_sem, h2]
    refine call_ok (ref10_Body_pc x2 (⟨#[63]⟩ : ByteArray)  _ h12) (by simp -dsimp only [go_sem, h2]) ?_
    obtain ⟨r14, h13, hF⟩ := bind_of hF hr
    try simp -dsimp only [go_sem, h2]
    refine call_ok (quantifier_DestUnique_pc x2  _ h13) (by simp -dsimp only [go_sem, h2]) ?_
    obtain ⟨r15, h14, hF⟩ := bind_of hF hr
    try simp -dsimp only [go_sem, h2]
    refine call_ok (ref10_Body_pc x2 (⟨#[63, 33]⟩ : ByteArray)  _ h14) (by simp -dsimp only [go_sem, h2]) ?_
    try simp -dsimp only [go_sem, h2]
    refine zcut_of (fun s => s = ⟨[(4, .b ((ref02_Same r4.1 r5.1) && ((decide (r4.2 = r5.2)) && ((ref02_Same r6.1 r7.1) && ((decide (r6.2 = r7.2)) && ((ref02_Same r8.1 r9.1) && ((decide (r8.2 = r9.2)) && ((ref02_Same r10.1 r11.1) && ((r10.2 == r11.2) && ((ref02_Same r12.1 r13.1) && ((r12.2 == r13.2) && ((ref02_Same r14.1 r15.1) && (r14.2 == r15.2)))))))))))))], []⟩) ?_ ?_
    · skip
      try simp -dsimp only [go_sem, h2]
      refine call_ok (ref02_Same_pc r4.1 r5.1 ) (by simp -dsimp only [go_sem, h2]) ?_
      try simp -dsimp only [go_sem, h2]
      refine zif_of (fun h15 => ?_) (fun h15 => ?_)
      · skip
        try simp -dsimp only [go_sem, h2, h15]
        refine zif_of (fun h16 => ?_) (fun h16 => ?_)
        · skip
          try simp -dsimp only [go_sem, h2, h15, h16]
          refine call_ok (ref02_Same_pc r6.1 r7.1 ) (by simp -dsimp only [go_sem, h2, h15, h16]) ?_
          try simp -dsimp only [go_sem, h2, h15, h16]
          refine zif_of (fun h17 => ?_) (fun h17 => ?_)
          · skip
            try simp -dsimp only [go_sem, h2, h15, h16, h17]
            refine zif_of (fun h18 => ?_) (fun h18 => ?_)
            · skip
              try simp -dsimp only [go_sem, h2, h15, h16, h17, h18]
              refine call_ok (ref02_Same_pc r8.1 r9.1 ) (by simp -dsimp only [go_sem, h2, h15, h16, h17, h18]) ?_
              try simp -dsimp only [go_sem, h2, h15, h16, h17, h18]
              refine zif_of (fun h19 => ?_) (fun h19 => ?_)
              · skip
                try simp -dsimp only [go_sem, h2, h15, h16, h17, h18, h19]
                refine zif_of (fun h20 => ?_) (fun h20 => ?_)
                · skip
                  try simp -dsimp only [go_sem, h2, h15, h16, h17, h18, h19, h20]
                  refine call_ok (ref02_Same_pc r10.1 r11.1 ) (by simp -dsimp only [go_sem, h2, h15, h16, h17, h18, h19, h20]) ?_
                  try simp -dsimp only [go_sem, h2, h15, h16, h17, h18, h19, h20]
                  refine zif_of (fun h21 => ?_) (fun h21 => ?_)
                  · skip
                    try simp -dsimp only [go_sem, h2, h15, h16, h17, h18, h19, h20, h21]
                    refine zif_of (fun h22 => ?_) (fun h22 => ?_)
                    · skip
                      try simp -dsimp only [go_sem, h2, h15, h16, h17, h18, h19, h20, h21, h22]
                      refine call_ok (ref02_Same_pc r12.1 r13.1 ) (by simp -dsimp only [go_sem, h2, h15, h16, h17, h18, h19, h20, h21, h22]) ?_
                      try simp -dsimp only [go_sem, h2, h15, h16, h17, h18, h19, h20, h21, h22]
                      refine zif_of (fun h23 => ?_) (fun h23 => ?_)
                      · skip
                        try simp -dsimp only [go_sem, h2, h15, h16, h17, h18, h19, h20, h21, h22, h23]
                        refine zif_of (fun h24 => ?_) (fun h24 => ?_)
                        · skip
                          try simp -dsimp only [go_sem, h2, h15, h16, h17, h18, h19, h20, h21, h22, h23, h24]
                          refine call_ok (ref02_Same_pc r14.1 r15.1 ) (by simp -dsimp only [go_sem, h2, h15, h16, h17, h18, h19, h20, h21, h22, h23, h24]) ?_
                          try simp -dsimp only [go_sem, h2, h15, h16, h17, h18, h19, h20, h21, h22, h23, h24]
                          refine zif_of (fun h25 => ?_) (fun h25 => ?_)
                          · skip
                            try simp -dsimp only [go_sem, h2, h15, h16, h17, h18, h19, h20, h21, h22, h23, h24, h25]
                            exact ⟨_, (Wks.ok (by simp -dsimp only [go_sem, h2, h15, h16, h17, h18, h19, h20, h21, h22, h23, h24, h25])), rfl⟩
                          · skip
                            try simp -dsimp only [go_sem, h2, h15, h16, h17, h18, h19, h20, h21, h22, h23, h24, h25]
                            exact ⟨_, (Wks.ok (by simp -dsimp only [go_sem, h2, h15, h16, h17, h18, h19, h20, h21, h22, h23, h24, h25])), rfl⟩
                        · skip
                          try simp -dsimp only [go_sem, h2, h15, h16, h17, h18, h19, h20, h21, h22, h23, h24]
                          exact ⟨_, (Wks.ok (by simp -dsimp only [go_sem, h2, h15, h16, h17, h18, h19, h20, h21, h22, h23, h24])), rfl⟩
                      · skip
                        try simp -dsimp only [go_sem, h2, h15, h16, h17, h18, h19, h20, h21, h22, h23]
                        exact ⟨_, (Wks.ok (by simp -dsimp only [go_sem, h2, h15, h16, h17, h18, h19, h20, h21, h22, h23])), rfl⟩
                    · skip
                      try simp -dsimp only [go_sem, h2, h15, h16, h17, h18, h19, h20, h21, h22]
                      exact ⟨_, (Wks.ok (by simp -dsimp only [go_sem, h2, h15, h16, h17, h18, h19, h20, h21, h22])), rfl⟩
                  · skip
                    try simp -dsimp only [go_sem, h2, h15, h16, h17, h18, h19, h20, h21]
                    exact ⟨_, (Wks.ok (by simp -dsimp only [go_sem, h2, h15, h16, h17, h18, h19, h20, h21])), rfl⟩
                · skip
                  try simp -dsimp only [go_sem, h2, h15, h16, h17, h18, h19, h20]
                  exact ⟨_, (Wks.ok (by simp -dsimp only [go_sem, h2, h15, h16, h17, h18, h19, h20])), rfl⟩
              · skip
                try simp -dsimp only [go_sem, h2, h15, h16, h17, h18, h19]
                exact ⟨_, (Wks.ok (by simp -dsimp only [go_sem, h2, h15, h16, h17, h18, h19])), rfl⟩
            · skip
              try simp -dsimp only [go_sem, h2, h15, h16, h17, h18]
              exact ⟨_, (Wks.ok (by simp -dsimp only [go_sem, h2, h15, h16, h17, h18])), rfl⟩
          · skip
            try simp -dsimp only [go_sem, h2, h15, h16, h17]
            exact ⟨_, (Wks.ok (by simp -dsimp only [go_sem, h2, h15, h16, h17])), rfl⟩
        · skip
          try simp -dsimp only [go_sem, h2, h15, h16]
          exact ⟨_, (Wks.ok (by simp -dsimp only [go_sem, h2, h15, h16])), rfl⟩
      · skip
        try simp -dsimp only [go_sem, h2, h15]
        exact ⟨_, (Wks.ok (by simp -dsimp only [go_sem, h2, h15])), rfl⟩
    rintro _ rfl hfit
    cases hF
    simp -dsimp only [go_sem, h2]
theorem QuantifierTerms_true (v t : Tm) (hv : okT v) (ht : okT t) : law10_QuantifierTerms v t = some true := by
  unfold law10_QuantifierTerms law10_great
  have e1 := ref02_Great_eq v hv.1 (by have := hv.2; omega)
  have e2 := ref02_Great_eq t ht.1 (by have := ht.2; omega)
  have s1 : (ByteArray.size ⟨#[33]⟩) ≤ 30 := by decide
  have s2 : (ByteArray.size ⟨#[63]⟩) ≤ 30 := by decide
  have s3 : (ByteArray.size ⟨#[63, 33]⟩) ≤ 30 := by decide
  obtain ⟨r1, k1, k2⟩ := body_same t ⟨#[33]⟩
  obtain ⟨r2, k3, k4⟩ := body_same t ⟨#[63]⟩
  obtain ⟨r3, k5, k6⟩ := body_same t ⟨#[63, 33]⟩
  simp only [law10_great.L1, law10_great.L2, e1, e2, Option.bind_some, quantifier_MkForall, quantifier_MkExists, quantifier_MkUnique, quantifier_DestForall, quantifier_DestExists, quantifier_DestUnique, quantify_eq _ v t s1 hv ht, quantify_eq _ v t s2 hv ht, quantify_eq _ v t s3 hv ht,
    Make_eq _ v t s1 hv ht, Make_eq _ v t s2 hv ht, Make_eq _ v t s3 hv ht, k1, k2, k3, k4, k5, k6, ref02_Same, cmpTm_refl, decide_true, beq_self_eq_true, Bool.and_self]
  cases greatT v <;> cases greatT t <;> rfl

end
end Go.Ab.Q
