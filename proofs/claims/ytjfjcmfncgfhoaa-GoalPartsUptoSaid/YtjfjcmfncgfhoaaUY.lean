/- The table is sound. -/
import Derived.Test.YtjfjcmfncgfhoaaUX
import Derived.Test.YtjfjcmfncgfhoaaV1
import Derived.Test.YtjfjcmfncgfhoaaI4
import Derived.Shelf.Small.Strs
import Derived.Test.YtjfjcmfncgfhoaaChecked
set_option linter.all false
set_option linter.all false
set_option maxRecDepth 100000
namespace Go.Proofs
open Go.RowKit
theorem c114 (a b : ByteArray) (w : World) :
    Calls Try.prog 114 #[.string a, .string b] w fun e w' => e = .returned (.int .i64 (Lib.compareBytes a.data.toList b.data.toList)) ∧ w' = w := by
  go_enter Try.func114, (rfl : Try.f114.ntmps = 8)
  go_wp2
  rw [run_callFunc_extern Try.func129 (by kernel_rfl) (by kernel_rfl) (by kernel_rfl) (e := Extern.BytealgCompare.compare) (by kernel_rfl), Lib.run_compareString]
  simp only [Result.andThen]
  rw [Oper.upon_value]
  go_wp2
  go_ret
  exact ⟨rfl, rfl⟩
end Go.Proofs
namespace Go.Ab.X
open Go.RowKit Go.Ab
theorem cmp_pg (H : List (HB G)) (args : List (N G)) (Ho : List (HB G)) (y : N G) (h : pCmp H args = some (Ho, y)) (B β : Nat → Nat) :
    PG Go.Proofs.Try.prog 114 (absH β 0 H ++ pinsOf B (boxIx 0 H)) (absL args) (absH β 0 Ho ++ pinsOf B (boxIx 0 H)) y.abs := by
  unfold pCmp at h
  split at h
  · rename_i a b
    obtain ⟨rfl, rfl⟩ : Ho = [] ∧ y = .v .int (cmpB a b) := by cases h; exact ⟨rfl, rfl⟩
    refine ⟨fun _ _ => by kernel_rfl, fun I θ w vals S hv => ?_⟩
    have hv : RVs I θ w [.s a, .s b] vals := hv
    simp only [RVs, RV] at hv
    obtain ⟨v, r, rfl, ⟨rfl, -⟩, v', r', rfl, ⟨rfl, -⟩, rfl⟩ := hv
    refine (Go.Proofs.c114 a b w).mono ?_
    rintro e w' ⟨rfl, rfl⟩
    refine ⟨_, I, θ, rfl, S, ?_⟩
    show RV I θ w' (.i .i64 (cmpB a b)) _
    simp only [RV, cmpB, true_and]
    rcases cmpL_rng a.data.toList b.data.toList with h | h | h <;> rw [h] <;> decide
  · cases h
theorem ins_prim (H : List (HB G)) (args : List (N G)) (Ho : List (HB G)) (y : N G) (h : pIns H args = some (Ho, y)) (B β : Nat → Nat) :
    PG Go.Proofs.Try.prog 63 (absH β 0 H ++ pinsOf B (boxIx 0 H)) (absL args) (absH β 0 Ho ++ pinsOf B (boxIx 0 H)) y.abs := by
  unfold pIns at h
  split at h
  · rename_i t l i v
    unfold insF at h
    cases ht : Nat.beq t tidTm <;> rw [ht] at h
    · cases h
    · obtain rfl := Nat.eq_of_beq_eq_true ht
      rw [cond_true] at h
      split at h
      · rename_i hc
        obtain ⟨h1, h2, h3, h4⟩ := hc
        obtain ⟨x, rfl⟩ := List.length_eq_one_iff.1 h1
        obtain ⟨n, hn⟩ : ∃ n : Nat, i = (n : Int) := ⟨Int.toNat i, (Int.toNat_of_nonneg h2).symm⟩
        subst hn
        rw [Int.toNat_natCast] at h
        cases h
        exact Go.Proofs.Ins.ins_pg l n x (Int.ofNat_le.1 h3) h4
      · cases h
  · cases h
theorem nodes_its : ItP Go.Proofs.Try.prog 141 itNodes := by
  intro caps L h _
  unfold itNodes at h
  split at h
  · rename_i t _
    cases h
    exact Go.Proofs.It.nodes_it t
  · cases h
theorem X_prims : primOk Go.Proofs.Try.prog X := ⟨fun H args Ho y h _ B β => cmp_pg H args Ho y h B β, fun H args Ho y h _ B β => ins_prim H args Ho y h B β, trivial⟩
theorem itsN {P : Program} {x : XFn G} (h : x.body.noRange = true) : (bif x.body.noRange then True else x.body.its P) := by rw [h]; trivial
theorem itsY {P : Program} {x : XFn G} (h : x.body.its P) : (bif x.body.noRange then True else x.body.its P) := by cases x.body.noRange <;> first | exact h | trivial
theorem its133 : (c133 : XFn G).body.its Go.Proofs.Try.prog := by
  simp only [c133, TC.its, nodes_its, and_true, true_and, and_self]
theorem X_its : itsOk Go.Proofs.Try.prog X := by
  unfold X
  repeat' (first | exact trivial | exact itsY its133 | exact itsN (by kernel_rfl) | refine ⟨?_, ?_⟩ | (show itsOk _ _))
theorem X_ok : TabOk Go.Proofs.Try.prog X := tab_ok X_tab X_prims X_its
end Go.Ab.X
