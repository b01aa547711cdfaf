/- A part of the proof: C1. -/
import Derived.Shelf.Small.Strs
import Derived.Test.YtjfjcmfncgfhoaaChecked
set_option linter.all false
namespace Go.Proofs
open Go.RowKit
set_option maxRecDepth 100000
theorem c114 (a b : ByteArray) (w : World) :
    Calls Try.prog 114 #[.string a, .string b] w fun e w' => e = .returned (.int .i64 (Lib.compareBytes a.data.toList b.data.toList)) ∧ w' = w := by
  go_enter Try.func114, (rfl : Try.f114.ntmps = 8)
  go_wp2
  rw [run_callFunc_extern Try.func129 (by kernel_rfl) (by kernel_rfl) (by kernel_rfl) (e := Extern.BytealgCompare.compare) (by kernel_rfl), Lib.run_compareString]
  simp only [Result.andThen]
  rw [Oper.upon_value]
  go_wp2
  go_ret
  exact ⟨rfl, rfl⟩
end Go.Proofs
