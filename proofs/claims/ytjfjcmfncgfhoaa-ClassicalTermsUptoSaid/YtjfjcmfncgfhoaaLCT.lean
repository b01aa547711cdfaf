/- For any terms p, x and y, MkSelect and MkCond answer as the reference does. Condition: the arguments are of bulk at most 1048576. -/
import Derived.Test.YtjfjcmfncgfhoaaRdB
import Derived.Test.YtjfjcmfncgfhoaaQ7
set_option linter.all false
set_option linter.unusedVariables false
set_option maxRecDepth 100000
namespace Go.Proofs.Ytjfjcmfncgfhoaa
open Go.ChangeShapes Go.WideShapes Go.ChangeAt Go.RowKit Go.Ab Go.Ab.Rd
namespace ct
theorem own : ownKnob Try.prog.godebug = none := by kernel_rfl
theorem laid : laidOutB Try.prog = true := by kernel_rfl
theorem law (p x y : Tm) (hp : fitT p) (hx : fitT x) (hy : fitT y) (bp : bkT p ≤ 2 ^ 30) (bx : bkT x ≤ 2 ^ 30) (b_y : bkT y ≤ 2 ^ 30) : PC Try.prog 4 [.agg (tmC p), .agg (tmC x), .agg (tmC y)] (.b true) :=
  Go.Ab.Q.law11_ClassicalTerms_pc p x y true (Go.Ab.Q.ClassicalTerms_true p x y ⟨hp, bp⟩ ⟨hx, bx⟩ ⟨hy, b_y⟩)
theorem contract (H : Type) (enc : TypeId × Value → H) (W : World) (base : Nat) (args : Array Value) (ds gs : List (DataW H)) (before : List MemPlace)
    (hval : ∀ (j : Nat) t v, Try.f4.params[j]? = some t → args[j]? = some v → Value.okWide Try.prog W .any base t v)
    (hW : DataW.Whole enc Try.prog Try.f4.params.toList Rows.classicalTermsSpec.vars false W args.toList ds gs before) (hk : Rows.uptoSmall H (ds ++ gs) = true) :
    Calls Try.prog 4 args W fun e W' => ∃ v, e = .returned v ∧ Rows.classicalTermsSpec.post enc Try.prog Try.f4 false true false false W args v W' := by
  have hW' := hW
  obtain ⟨p, q, hA0, hV, rfl, hfz, hnd⟩ := hW
  have hA : DataW.TrodAll enc Try.prog W 0 (fun _ => true) true Try.f4.params.toList args.toList ds p := hA0
  rw [show Try.f4.params = #[27, 27, 27] from rfl] at hA hval
  obtain ⟨v0, v1, v2, d0, d1, d2, p0, p1, p2, rfl, rfl, eP, h0, h1, h2⟩ := trodAll_three hA
  rw [List.append_assoc] at eP
  subst eP
  obtain ⟨rfl, rfl⟩ := trodVars_none hV
  clear hA0
  have hb : Rows.uptoBulkAll ([d0, d1, d2] ++ []) ≤ 1048576 := of_decide_eq_true hk
  simp only [List.append_nil, Rows.uptoBulkAll] at hb
  obtain ⟨t0, r0, b0⟩ := arg_tm (hval 0 27 v0 rfl rfl) h0 (by omega)
  obtain ⟨t1, r1, b1⟩ := arg_tm (hval 1 27 v1 rfl rfl) h1 (by omega)
  obtain ⟨t2, r2, b2⟩ := arg_tm (hval 2 27 v2 rfl rfl) h2 (by omega)
  have f0 : fitT t0 := fitT_of t0 (by have := RV_fit _ _ r0; simpa only [Fit] using this)
  have f1 : fitT t1 := fitT_of t1 (by have := RV_fit _ _ r1; simpa only [Fit] using this)
  have f2 : fitT t2 := fitT_of t2 (by have := RV_fit _ _ r2; simpa only [Fit] using this)
  have hc := (law t0 t1 t2 f0 f1 f2 (by omega) (by omega) (by omega)).2 (Iw W) W [v0, v1, v2] (fun _ h => h) (by simp only [RVs]; exact ⟨v0, _, rfl, r0, v1, _, rfl, r1, v2, _, rfl, r2, rfl⟩)
  refine hc.mono fun e W' h => ?_
  obtain ⟨v, rfl, hbel, hv⟩ := h
  simp only [RV] at hv
  subst hv
  have hlt : ∀ x ∈ (p0 ++ (p1 ++ p2)) ++ [], x.block < W.heap.size := fun x hx => by simpa using hW'.lt x hx
  refine ⟨_, rfl, post_of_below (pa := p0 ++ (p1 ++ p2)) (pv := []) hW' hbel (fun _ _ _ => trodAll_mk1 (shut_bool Try.underlying4 _)) (fun sp hsp => trodAll_mk3
      (WideElems.Trod_stays laid (by kernel_rfl) (of_decide_eq_true (by kernel_rfl)) h0 (fun x hx => hbel.same (hlt x (by simp [hx]))) (fun x hx => hsp x (by simp [hx])))
      (WideElems.Trod_stays laid (by kernel_rfl) (of_decide_eq_true (by kernel_rfl)) h1 (fun x hx => hbel.same (hlt x (by simp [hx]))) (fun x hx => hsp x (by simp [hx])))
      (WideElems.Trod_stays laid (by kernel_rfl) (of_decide_eq_true (by kernel_rfl)) h2 (fun x hx => hbel.same (hlt x (by simp [hx]))) (fun x hx => hsp x (by simp [hx]))))
    (fun _ _ => rfl) rfl (ok_one (by kernel_rfl) rfl (okWide_bool_mk Try.underlying4 _))⟩
theorem lifted (os : Os) (started : os.Started) (H : Type) (enc : TypeId × Value → H) (F : Stop.Interp) :
    ReturnsInHanded {} Try.checked os 4 .any ((Rows.OpenSpec.upto Rows.classicalTermsSpec).pre6 enc Try.prog Try.f4 Rows.classicalTermsUptoRow.domain false) (((Rows.OpenSpec.upto Rows.classicalTermsSpec).at F).post enc Try.prog Try.f4 false true false false) := by
  refine returnsInHanded_of_cond (C := Try.checked) (s := Rows.OpenSpec.upto Rows.classicalTermsSpec) (k := Rows.uptoSmall) rfl own started (by kernel_rfl) Try.func4
    (OpenSpec.witness (enc := enc) (C := Try.checked) (s := Rows.OpenSpec.upto Rows.classicalTermsSpec) (k := Rows.uptoSmall) rfl false ⟨#[], #[.agg #[.int .u8 0, .string ⟨#[]⟩, .bool false, .string ⟨#[]⟩, .slice none 0 0, .int .i64 0, .slice none 0 0], .agg #[.int .u8 0, .string ⟨#[]⟩, .bool false, .string ⟨#[]⟩, .slice none 0 0, .int .i64 0, .slice none 0 0], .agg #[.int .u8 0, .string ⟨#[]⟩, .bool false, .string ⟨#[]⟩, .slice none 0 0, .int .i64 0, .slice none 0 0]], []⟩ 8 (by kernel_rfl) (by kernel_rfl) (by kernel_rfl)
      (x := ([.agg [.lit (.int .u8 0), .lit (.string []), .agg [.lit (.bool false), .lit (.string []), .nil], .lit (.int .i64 0), .nil], .agg [.lit (.int .u8 0), .lit (.string []), .agg [.lit (.bool false), .lit (.string []), .nil], .lit (.int .i64 0), .nil], .agg [.lit (.int .u8 0), .lit (.string []), .agg [.lit (.bool false), .lit (.string []), .nil], .lit (.int .i64 0), .nil]], [], [])) (by kernel_rfl) rfl (by kernel_rfl)) ?_
  intro W base args ds gs before hval hW _ hk _
  exact contract H enc W base args ds gs before hval hW hk
theorem over : Rows.classicalTermsUptoRow.holds Try.pinned (Rows.OpenSpec.upto Rows.classicalTermsSpec) :=
  OpenClaim.holds_of_cond 4 Try.f4 rfl rfl rfl rfl rfl rfl rfl ⟨rfl, rfl, rfl, rfl, rfl⟩ rfl rfl rfl rfl rfl (by kernel_rfl) Try.func4 (by kernel_rfl)
    (of_decide_eq_true (by kernel_rfl)) (by unfold Func.isWrapper; first | (rw [if_pos (by decide +kernel)]; kernel_rfl) | (rw [if_neg (by decide +kernel)]; exact ⟨rfl, rfl⟩))
    (fun os started H enc _ F => lifted os started H enc F)
end ct
theorem classicalTerms_holds : Rows.ClassicalTermsUptoSaid := ct.over
#print axioms classicalTerms_holds
end Go.Proofs.Ytjfjcmfncgfhoaa
