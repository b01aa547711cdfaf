/- For any terms v and t, MkForall, MkExists, MkUnique and their destructors answer as the reference does. Condition: the arguments are of bulk at most 1048576. -/
import Derived.Test.YtjfjcmfncgfhoaaRdB
import Derived.Test.YtjfjcmfncgfhoaaQ6
set_option linter.all false
set_option linter.unusedVariables false
set_option maxRecDepth 100000
namespace Go.Proofs.Ytjfjcmfncgfhoaa
open Go.ChangeShapes Go.WideShapes Go.ChangeAt Go.RowKit Go.Ab Go.Ab.Rd
namespace qt
theorem own : ownKnob Try.prog.godebug = none := by kernel_rfl
theorem laid : laidOutB Try.prog = true := by kernel_rfl
theorem law (v t : Tm) (hv : fitT v) (ht : fitT t) (bv : bkT v ≤ 2 ^ 30) (bt : bkT t ≤ 2 ^ 30) : PC Try.prog 3 [.agg (tmC v), .agg (tmC t)] (.b true) :=
  Go.Ab.Q.law10_QuantifierTerms_pc v t true (Go.Ab.Q.QuantifierTerms_true v t ⟨hv, bv⟩ ⟨ht, bt⟩)
theorem contract (H : Type) (enc : TypeId × Value → H) (W : World) (base : Nat) (args : Array Value) (ds gs : List (DataW H)) (before : List MemPlace)
    (hval : ∀ (j : Nat) t v, Try.f3.params[j]? = some t → args[j]? = some v → Value.okWide Try.prog W .any base t v)
    (hW : DataW.Whole enc Try.prog Try.f3.params.toList Rows.quantifierTermsSpec.vars false W args.toList ds gs before) (hk : Rows.uptoSmall H (ds ++ gs) = true) :
    Calls Try.prog 3 args W fun e W' => ∃ v, e = .returned v ∧ Rows.quantifierTermsSpec.post enc Try.prog Try.f3 false true false false W args v W' := by
  have hW' := hW
  obtain ⟨p, q, hA0, hV, rfl, hfz, hnd⟩ := hW
  have hA : DataW.TrodAll enc Try.prog W 0 (fun _ => true) true Try.f3.params.toList args.toList ds p := hA0
  rw [show Try.f3.params = #[27, 27] from rfl] at hA hval
  obtain ⟨v0, v1, d0, d1, p0, p1, rfl, rfl, rfl, h0, h1⟩ := trodAll_two hA
  obtain ⟨rfl, rfl⟩ := trodVars_none hV
  clear hA0
  have hb : Rows.uptoBulkAll ([d0, d1] ++ []) ≤ 1048576 := of_decide_eq_true hk
  simp only [List.append_nil, Rows.uptoBulkAll] at hb
  obtain ⟨t0, r0, b0⟩ := arg_tm (hval 0 27 v0 rfl rfl) h0 (by omega)
  obtain ⟨t1, r1, b1⟩ := arg_tm (hval 1 27 v1 rfl rfl) h1 (by omega)
  have f0 : fitT t0 := fitT_of t0 (by have := RV_fit _ _ r0; simpa only [Fit] using this)
  have f1 : fitT t1 := fitT_of t1 (by have := RV_fit _ _ r1; simpa only [Fit] using this)
  have hc := (law t0 t1 f0 f1 (by omega) (by omega)).2 (Iw W) W [v0, v1] (fun _ h => h) (by simp only [RVs]; exact ⟨v0, _, rfl, r0, v1, _, rfl, r1, rfl⟩)
  refine hc.mono fun e W' h => ?_
  obtain ⟨v, rfl, hbel, hv⟩ := h
  simp only [RV] at hv
  subst hv
  have hlt : ∀ x ∈ (p0 ++ p1) ++ [], x.block < W.heap.size := fun x hx => by simpa using hW'.lt x hx
  refine ⟨_, rfl, post_of_below (pa := p0 ++ p1) (pv := []) hW' hbel (fun _ _ _ => trodAll_mk1 (shut_bool Try.underlying4 _)) (fun sp hsp => trodAll_mk2
      (WideElems.Trod_stays laid (by kernel_rfl) (of_decide_eq_true (by kernel_rfl)) h0 (fun x hx => hbel.same (hlt x (by simp [hx]))) (fun x hx => hsp x (by simp [hx])))
      (WideElems.Trod_stays laid (by kernel_rfl) (of_decide_eq_true (by kernel_rfl)) h1 (fun x hx => hbel.same (hlt x (by simp [hx]))) (fun x hx => hsp x (by simp [hx]))))
    (fun _ _ => rfl) rfl (ok_one (by kernel_rfl) rfl (okWide_bool_mk Try.underlying4 _))⟩
theorem lifted (os : Os) (started : os.Started) (H : Type) (enc : TypeId × Value → H) (F : Stop.Interp) :
    ReturnsInHanded {} Try.checked os 3 .any ((Rows.OpenSpec.upto Rows.quantifierTermsSpec).pre6 enc Try.prog Try.f3 Rows.quantifierTermsUptoRow.domain false) (((Rows.OpenSpec.upto Rows.quantifierTermsSpec).at F).post enc Try.prog Try.f3 false true false false) := by
  refine returnsInHanded_of_cond (C := Try.checked) (s := Rows.OpenSpec.upto Rows.quantifierTermsSpec) (k := Rows.uptoSmall) rfl own started (by kernel_rfl) Try.func3
    (OpenSpec.witness (enc := enc) (C := Try.checked) (s := Rows.OpenSpec.upto Rows.quantifierTermsSpec) (k := Rows.uptoSmall) rfl false ⟨#[], #[.agg #[.int .u8 0, .string ⟨#[]⟩, .bool false, .string ⟨#[]⟩, .slice none 0 0, .int .i64 0, .slice none 0 0], .agg #[.int .u8 0, .string ⟨#[]⟩, .bool false, .string ⟨#[]⟩, .slice none 0 0, .int .i64 0, .slice none 0 0]], []⟩ 8 (by kernel_rfl) (by kernel_rfl) (by kernel_rfl)
      (x := ([.agg [.lit (.int .u8 0), .lit (.string []), .agg [.lit (.bool false), .lit (.string []), .nil], .lit (.int .i64 0), .nil], .agg [.lit (.int .u8 0), .lit (.string []), .agg [.lit (.bool false), .lit (.string []), .nil], .lit (.int .i64 0), .nil]], [], [])) (by kernel_rfl) rfl (by kernel_rfl)) ?_
  intro W base args ds gs before hval hW _ hk _
  exact contract H enc W base args ds gs before hval hW hk
theorem over : Rows.quantifierTermsUptoRow.holds Try.pinned (Rows.OpenSpec.upto Rows.quantifierTermsSpec) :=
  OpenClaim.holds_of_cond 3 Try.f3 rfl rfl rfl rfl rfl rfl rfl ⟨rfl, rfl, rfl, rfl, rfl⟩ rfl rfl rfl rfl rfl (by kernel_rfl) Try.func3 (by kernel_rfl)
    (of_decide_eq_true (by kernel_rfl)) (by unfold Func.isWrapper; first | (rw [if_pos (by decide +kernel)]; kernel_rfl) | (rw [if_neg (by decide +kernel)]; exact ⟨rfl, rfl⟩))
    (fun os started H enc _ F => lifted os started H enc F)
end qt
theorem quantifierTerms_holds : Rows.QuantifierTermsUptoSaid := qt.over
#print axioms quantifierTerms_holds
end Go.Proofs.Ytjfjcmfncgfhoaa
