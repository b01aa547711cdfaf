/- A part of the proof: RdB. -/
import Derived.Test.YtjfjcmfncgfhoaaRdA
import Derived.Test.YtjfjcmfncgfhoaaSpC
set_option linter.all false
set_option linter.unusedVariables false
set_option maxRecDepth 100000
namespace Go.Ab.Rd
open Go.RowKit Go.Ab Go.Proofs.Ytjfjcmfncgfhoaa Go.Proofs
section
variable {H : Type} {enc : TypeId × Value → H} {w : World} {spare : Nat → Bool} {held : Bool}
theorem sumL_ys : ∀ l : List Ty, sumL bkY l = bkYs l
  | [] => rfl
  | t :: l => by simp [sumL, bkYs, sumL_ys l]
theorem sumL_ts : ∀ l : List Tm, sumL bkT l = bkTs l
  | [] => rfl
  | t :: l => by simp [sumL, bkTs, sumL_ts l]
theorem ba_len (s : ByteArray) : s.data.toList.length = s.size := Array.length_toList
theorem read_ty (n : Nat) : Reads H enc Try.prog w spare held n 24 tyC bkY := by
  induction n using Nat.strongRecOn with
  | _ n ih =>
    intro cs x h hb
    obtain ⟨xs, m, rfl, rfl, hl, hlen, hf⟩ := DataW.trod_struct (show Try.prog.underlying 24 = _ from Try.underlying24) h
    have k0 : Try.prog.cellsOf 24 = 3 := by kernel_rfl
    have k1 : Try.prog.cellsOf 4 = 1 := by kernel_rfl
    have k2 : Try.prog.cellsOf 9 = 1 := by kernel_rfl
    have k3 : Try.prog.cellsOf 22 = 1 := by kernel_rfl
    rw [k0] at hl
    match xs, hlen, cs, hl with
    | [y0, y1, y2], _, [c0, c1, c2], _ =>
      have h0 : DataW.trod enc Try.prog w 0 spare held m 4 [c0] = some y0 := by simpa [k1] using hf 0 _ rfl
      have h1 : DataW.trod enc Try.prog w 0 spare held m 9 [c1] = some y1 := by simpa [k2] using hf 1 _ rfl
      have h2 : DataW.trod enc Try.prog w 0 spare held m 22 [c2] = some y2 := by simpa [k3] using hf 2 _ rfl
      simp only [List.map_cons, List.map_nil, Rows.uptoBulk, Rows.uptoBulkAll] at hb ⊢
      obtain ⟨b, e0, d0⟩ := DataW.trod_bool Try.underlying4 h0
      obtain ⟨s, e1, d1, hs⟩ := DataW.trod_string Try.underlying9 h1
      obtain ⟨l, v, e2, o2, r2, b2⟩ := read_slice (C := tyC) (bk := bkY) Try.underlying22 k0 (fun t => by simp [ty_eq]) pure_ty (by omega) (fun q hq => ih q (by omega)) h2 (by omega)
      cases e0; cases e1; cases e2
      rw [d1] at hb ⊢
      simp only [Rows.uptoBulk, ba_len] at hb ⊢
      rw [sumL_ys] at b2
      refine ⟨.mk b s l, ?_, ?_, ?_⟩
      · rw [ty_eq]
        simp only [RVs, Ty.v, Ty.n, Ty.a]
        exact ⟨_, _, rfl, rfl, _, _, rfl, ⟨rfl, by simp [LIM]; omega⟩, _, _, rfl, r2, rfl⟩
      · intro u hu
        simp only [List.mem_cons, List.not_mem_nil, or_false] at hu
        rcases hu with rfl | rfl | rfl
        · rfl
        · rfl
        · exact o2
      · simp only [bkY]; omega
theorem wf_rng {k : IntKind} {n : Int} (h : (Lit.int k n).wf = true) : k.min ≤ n ∧ n ≤ k.max := by
  simpa [Lit.wf] using h
theorem read_tm (n : Nat) : Reads H enc Try.prog w spare held n 27 tmC bkT := by
  induction n using Nat.strongRecOn with
  | _ n ih =>
    intro cs x h hb
    obtain ⟨xs, m, rfl, rfl, hl, hlen, hf⟩ := DataW.trod_struct (show Try.prog.underlying 27 = _ from Try.underlying27) h
    have k0 : Try.prog.cellsOf 27 = 7 := by kernel_rfl
    have k1 : Try.prog.cellsOf 5 = 1 := by kernel_rfl
    have k2 : Try.prog.cellsOf 9 = 1 := by kernel_rfl
    have k3 : Try.prog.cellsOf 24 = 3 := by kernel_rfl
    have k4 : Try.prog.cellsOf 3 = 1 := by kernel_rfl
    have k5 : Try.prog.cellsOf 25 = 1 := by kernel_rfl
    rw [k0] at hl
    match xs, hlen, cs, hl with
    | [y0, y1, y2, y3, y4], _, [c0, c1, c2, c3, c4, c5, c6], _ =>
      have h0 : DataW.trod enc Try.prog w 0 spare held m 5 [c0] = some y0 := by simpa [k1] using hf 0 _ rfl
      have h1 : DataW.trod enc Try.prog w 0 spare held m 9 [c1] = some y1 := by simpa [k2] using hf 1 _ rfl
      have h2 : DataW.trod enc Try.prog w 0 spare held m 24 [c2, c3, c4] = some y2 := by simpa [k3] using hf 2 _ rfl
      have h3 : DataW.trod enc Try.prog w 0 spare held m 3 [c5] = some y3 := by simpa [k4] using hf 3 _ rfl
      have h4 : DataW.trod enc Try.prog w 0 spare held m 25 [c6] = some y4 := by simpa [k5] using hf 4 _ rfl
      simp only [List.map_cons, List.map_nil, Rows.uptoBulk, Rows.uptoBulkAll] at hb ⊢
      obtain ⟨k, e0, d0, w0⟩ := DataW.trod_int Try.underlying5 h0
      obtain ⟨s, e1, d1, hs⟩ := DataW.trod_string Try.underlying9 h1
      obtain ⟨t, r2, o2, b2⟩ := read_ty m [c2, c3, c4] y2 h2 (by omega)
      obtain ⟨i, e3, d3, w3⟩ := DataW.trod_int Try.underlying3 h3
      obtain ⟨l, v, e4, o4, r4, b4⟩ := read_slice (C := tmC) (bk := bkT) Try.underlying25 k0 (fun t => by simp [tm_eq]) pure_tm (by omega) (fun q hq => ih q (by omega)) h4 (by omega)
      cases e0; cases e1; cases e3; cases e4
      rw [d1] at hb ⊢
      simp only [Rows.uptoBulk, ba_len] at hb ⊢
      rw [sumL_ts] at b4
      refine ⟨.mk k s t i l, ?_, ?_, ?_⟩
      · rw [tm_eq]
        rw [ty_eq] at r2
        simp only [RVs, Tm.k, Tm.n, Tm.y, Tm.i, Tm.s] at r2 ⊢
        obtain ⟨v2, _, q2, z2, v3, _, q3, z3, v4, _, q4, z4, q5⟩ := r2
        subst q5; cases q4; cases q3; cases q2
        exact ⟨_, _, rfl, ⟨rfl, wf_rng w0⟩, _, _, rfl, ⟨rfl, by simp [LIM]; omega⟩, _, _, rfl, z2, _, _, rfl, z3, _, _, rfl, z4, _, _, rfl, ⟨rfl, wf_rng w3⟩, _, _, rfl, r4, rfl⟩
      · intro u hu
        simp only [List.mem_cons, List.not_mem_nil, or_false] at hu
        rcases hu with rfl | rfl | rfl | rfl | rfl | rfl | rfl
        · rfl
        · rfl
        · exact o2 _ (by simp)
        · exact o2 _ (by simp)
        · exact o2 _ (by simp)
        · rfl
        · exact o4
      · simp only [bkT]; omega
theorem agg_of {α : Type} {C : α → List AV} {a : α} {cs : Array Value} (h : RVs (Iw w) noθ w (C a) cs.toList) (h1 : ∀ u ∈ cs.toList, u.oneCell' = true) : RV (Iw w) noθ w (.agg (C a)) (.agg cs) := by
  simp only [RV]
  exact ⟨cs.toList, by simp, h1, h⟩
/-- An argument that is a term. -/
theorem arg_tm {v : Value} {d : DataW H} {ps : List MemPlace} {r : Reach} {base : Nat} (hv : Value.okWide Try.prog w r base 27 v) (h : DataW.Trod enc Try.prog w 0 spare held 27 v d ps) (hb : Rows.uptoBulk d ≤ 1048576) :
    ∃ t : Tm, RV (Iw w) noθ w (.agg (tmC t)) v ∧ bkT t ≤ 2 * Rows.uptoBulk d := by
  obtain ⟨n, h⟩ := h
  unfold Value.okWide at hv
  rw [show Try.prog.underlying 27 = _ from Try.underlying27] at hv
  obtain ⟨cs, rfl, _, _⟩ := hv
  obtain ⟨t, h1, h2, h3⟩ := read_tm n _ _ h hb
  exact ⟨t, agg_of h1 h2, h3⟩
end
end Go.Ab.Rd
