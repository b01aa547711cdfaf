/-
  NARROWER THAN 'FOR EVERY INPUT', by the rows' own cells (each row's printed sentence says how): EqualityRules: loops · EqualityJoins: loops.
  DERIVED. THE GIVEN ROWS OF THIS SEAT. 2 by the template 'for every input the law returns true; each argument reads behind the call as it read before'; 0 by the template 'total and deterministic' (their statements: YtlebiodkgkeomaaGreatTotals.lean).
  GIVEN WITH THE SEED: the statements are not yours to turn. If you find one false, say at which input.
  Laid BY PROGRAM, IN A SANDBOX (cutbox-rows.mjs): the forced cells as the released guide's own fill.sh prints them over the translation 2e7a5d32ec5fc12a… (all of the seat's roots in one cut). By AI agents, Wed Nov 11 2026. No macro, syntax, notation, axiom, sorry.
-/
import Derived.Test.YtlebiodkgkeomaaGreatChecked
import GoSem.Claim
import GoSem.ClaimJoined
import GoSem.ClaimMapViews
import Derived.JoinedTies
import Derived.KernelRfl
namespace Go.Proofs.YtlebiodkgkeomaaGreat
/- THE CELL 'sum', in the pinned program and in every row, IS THE sha256 OF THE DUMP (.gsa) THAT YtlebiodkgkeomaaGreatProg.lean LOADS. Nothing in Lean hashes anything: it is a label: what it is worth is what the hold of that sum in a sandbox is worth. -/
noncomputable def Tryz.pinned : Pinned := { name := "ytlebiodkgkeomaagreat", sum := "2e7a5d32ec5fc12a62d2d611870bcbde53c992d3276df0a9a60f33f6b4d66491", checked := Tryz.checked }
namespace Rows
def none {H : Type} : Left H := { results := [], args := [] }

/-- 'sequentlaw08.EqualityRules': WHATEVER THE INPUT: true; the input reads as it did. -/
def equalityRulesSpec : ChangeSpec := { name := "equalityRules", fn := fun _ => fun
  | [d1, d2, d3] => { results := [.lit (.bool true)], args := [d1, d2, d3] }
  | _ => none }
def equalityRulesRow : OpenClaim := { program := "ytlebiodkgkeomaagreat", sum := "2e7a5d32ec5fc12a62d2d611870bcbde53c992d3276df0a9a60f33f6b4d66491", func := "sequent/sequentlaw08.EqualityRules", spec := "equalityRules", inPlace := ["internal/bytealg.abigen_runtime_cmpstring"], unfollowed := true, recurses := true, loops := true, apart := false }
def EqualityRulesSaid : Prop := equalityRulesRow.holds Tryz.pinned (OpenSpec.ofChange equalityRulesSpec)

/-- ITS FALSE NEIGHBOUR: 'it returns false'. Refute it at one input. -/
def equalityRulesWrong : ChangeSpec := { name := "equalityRules", fn := fun _ => fun
  | [d1, d2, d3] => { results := [.lit (.bool false)], args := [d1, d2, d3] }
  | _ => none }
def EqualityRulesWrongFalsely : Prop := equalityRulesRow.holds Tryz.pinned (OpenSpec.ofChange equalityRulesWrong)

/-- 'sequentlaw08.EqualityJoins': WHATEVER THE INPUT: true; the input reads as it did. -/
def equalityJoinsSpec : ChangeSpec := { name := "equalityJoins", fn := fun _ => fun
  | [d1, d2, d3, d4] => { results := [.lit (.bool true)], args := [d1, d2, d3, d4] }
  | _ => none }
def equalityJoinsRow : OpenClaim := { program := "ytlebiodkgkeomaagreat", sum := "2e7a5d32ec5fc12a62d2d611870bcbde53c992d3276df0a9a60f33f6b4d66491", func := "sequent/sequentlaw08.EqualityJoins", spec := "equalityJoins", inPlace := ["internal/bytealg.abigen_runtime_cmpstring"], unfollowed := true, recurses := true, loops := true, apart := false }
def EqualityJoinsSaid : Prop := equalityJoinsRow.holds Tryz.pinned (OpenSpec.ofChange equalityJoinsSpec)

/-- ITS FALSE NEIGHBOUR: 'it returns false'. Refute it at one input. -/
def equalityJoinsWrong : ChangeSpec := { name := "equalityJoins", fn := fun _ => fun
  | [d1, d2, d3, d4] => { results := [.lit (.bool false)], args := [d1, d2, d3, d4] }
  | _ => none }
def EqualityJoinsWrongFalsely : Prop := equalityJoinsRow.holds Tryz.pinned (OpenSpec.ofChange equalityJoinsWrong)

/- THE SECOND FORM. 'bulk': how many values and letters a reading holds, each counted each time it is reached (what is shared counts as often as it is met; a slice's spare places count too). A statement '..UptoSaid' is the law's where the arguments, and the package variables that the reading takes, are together of bulk at most 1048576: NARROWER than '..Said'. Prove '..Said' where nothing that the law and all that it calls make is longer than what came in: it says more and counts as full. Else prove '..UptoSaid'. A law counts once. -/
mutual
def uptoBulk {H : Type} : DataW H → Nat
  | .lit (.string bytes) => bytes.length + 1
  | .lit _ => 1
  | .nil => 1
  | .ptr d => uptoBulk d + 1
  | .slice elems spare => uptoBulkAll elems + uptoBulkAll spare + 1
  | .agg parts => uptoBulkAll parts + 1
  | .iface _ d => uptoBulk d + 1
  | .map entries => uptoBulkEntries entries + 1
  | .held _ => 1
def uptoBulkAll {H : Type} : List (DataW H) → Nat
  | [] => 0
  | d :: r => uptoBulk d + uptoBulkAll r
def uptoBulkEntries {H : Type} : List (Lit × DataW H) → Nat
  | [] => 0
  | x :: r => uptoBulkEntry x + uptoBulkEntries r
def uptoBulkEntry {H : Type} : Lit × DataW H → Nat
  | (.string bytes, d) => bytes.length + uptoBulk d + 1
  | (_, d) => uptoBulk d + 1
 end
def uptoSmall : (H : Type) → List (DataW H) → Bool := fun _ ds => decide (uptoBulkAll ds ≤ 1048576)
def OpenSpec.upto (s : _root_.Go.ChangeSpec) : _root_.Go.OpenSpec := { _root_.Go.OpenSpec.ofChange s with cond := some uptoSmall }

/-- 'sequentlaw08.EqualityRules', WHERE WHAT IT READS IS OF BULK AT MOST 1048576: true; the input reads as it did. -/
def equalityRulesUptoRow : OpenClaim := { program := "ytlebiodkgkeomaagreat", sum := "2e7a5d32ec5fc12a62d2d611870bcbde53c992d3276df0a9a60f33f6b4d66491", func := "sequent/sequentlaw08.EqualityRules", spec := "equalityRules", inPlace := ["internal/bytealg.abigen_runtime_cmpstring"], unfollowed := true, recurses := true, loops := true, apart := false, narrowed := true }
def EqualityRulesUptoSaid : Prop := equalityRulesUptoRow.holds Tryz.pinned (OpenSpec.upto equalityRulesSpec)

/-- 'sequentlaw08.EqualityJoins', WHERE WHAT IT READS IS OF BULK AT MOST 1048576: true; the input reads as it did. -/
def equalityJoinsUptoRow : OpenClaim := { program := "ytlebiodkgkeomaagreat", sum := "2e7a5d32ec5fc12a62d2d611870bcbde53c992d3276df0a9a60f33f6b4d66491", func := "sequent/sequentlaw08.EqualityJoins", spec := "equalityJoins", inPlace := ["internal/bytealg.abigen_runtime_cmpstring"], unfollowed := true, recurses := true, loops := true, apart := false, narrowed := true }
def EqualityJoinsUptoSaid : Prop := equalityJoinsUptoRow.holds Tryz.pinned (OpenSpec.upto equalityJoinsSpec)

end Rows
end Go.Proofs.YtlebiodkgkeomaaGreat
