/-
  NARROWER THAN 'FOR EVERY INPUT', by the rows' own cells (each row's printed sentence says how): QuantifierTerms: loops · ClassicalTerms: loops · GoalParts: loops.
  DERIVED. THE GIVEN ROWS OF THIS SEAT. 3 by the template 'for every input the law returns true; each argument reads behind the call as it read before'; 0 by the template 'total and deterministic' (their statements: YtjfjcmfncgfhoaaTotals.lean).
  GIVEN WITH THE SEED: the statements are not yours to turn. If you find one false, say at which input.
  Laid BY PROGRAM, IN A SANDBOX (cutbox-rows.mjs): the forced cells as the released guide's own fill.sh prints them over the translation b280b1a989c8f37d… (all of the seat's roots in one cut). By AI agents, Wed Nov 11 2026. No macro, syntax, notation, axiom, sorry.
-/
import Derived.Test.YtjfjcmfncgfhoaaChecked
import GoSem.Claim
import GoSem.ClaimJoined
import GoSem.ClaimMapViews
import Derived.JoinedTies
import Derived.KernelRfl
namespace Go.Proofs.Ytjfjcmfncgfhoaa
/- THE CELL 'sum', in the pinned program and in every row, IS THE sha256 OF THE DUMP (.gsa) THAT YtjfjcmfncgfhoaaProg.lean LOADS. Nothing in Lean hashes anything: it is a label: what it is worth is what the hold of that sum in a sandbox is worth. -/
noncomputable def Try.pinned : Pinned := { name := "ytjfjcmfncgfhoaa", sum := "b280b1a989c8f37dacb5078a0ddf9d1e335b434e0a86b83feee3ab1fa3d7c90b", checked := Try.checked }
namespace Rows
def none {H : Type} : Left H := { results := [], args := [] }

/-- 'sequentlaw10.QuantifierTerms': WHATEVER THE INPUT: true; the input reads as it did. -/
def quantifierTermsSpec : ChangeSpec := { name := "quantifierTerms", fn := fun _ => fun
  | [d1, d2] => { results := [.lit (.bool true)], args := [d1, d2] }
  | _ => none }
def quantifierTermsRow : OpenClaim := { program := "ytjfjcmfncgfhoaa", sum := "b280b1a989c8f37dacb5078a0ddf9d1e335b434e0a86b83feee3ab1fa3d7c90b", func := "sequent/sequentlaw10.QuantifierTerms", spec := "quantifierTerms", inPlace := ["internal/bytealg.abigen_runtime_cmpstring"], unfollowed := true, recurses := true, loops := true, apart := false }
def QuantifierTermsSaid : Prop := quantifierTermsRow.holds Try.pinned (OpenSpec.ofChange quantifierTermsSpec)

/-- ITS FALSE NEIGHBOUR: 'it returns false'. Refute it at one input. -/
def quantifierTermsWrong : ChangeSpec := { name := "quantifierTerms", fn := fun _ => fun
  | [d1, d2] => { results := [.lit (.bool false)], args := [d1, d2] }
  | _ => none }
def QuantifierTermsWrongFalsely : Prop := quantifierTermsRow.holds Try.pinned (OpenSpec.ofChange quantifierTermsWrong)

/-- 'sequentlaw11.ClassicalTerms': WHATEVER THE INPUT: true; the input reads as it did. -/
def classicalTermsSpec : ChangeSpec := { name := "classicalTerms", fn := fun _ => fun
  | [d1, d2, d3] => { results := [.lit (.bool true)], args := [d1, d2, d3] }
  | _ => none }
def classicalTermsRow : OpenClaim := { program := "ytjfjcmfncgfhoaa", sum := "b280b1a989c8f37dacb5078a0ddf9d1e335b434e0a86b83feee3ab1fa3d7c90b", func := "sequent/sequentlaw11.ClassicalTerms", spec := "classicalTerms", inPlace := ["internal/bytealg.abigen_runtime_cmpstring"], unfollowed := true, recurses := true, loops := true, apart := false }
def ClassicalTermsSaid : Prop := classicalTermsRow.holds Try.pinned (OpenSpec.ofChange classicalTermsSpec)

/-- ITS FALSE NEIGHBOUR: 'it returns false'. Refute it at one input. -/
def classicalTermsWrong : ChangeSpec := { name := "classicalTerms", fn := fun _ => fun
  | [d1, d2, d3] => { results := [.lit (.bool false)], args := [d1, d2, d3] }
  | _ => none }
def ClassicalTermsWrongFalsely : Prop := classicalTermsRow.holds Try.pinned (OpenSpec.ofChange classicalTermsWrong)

/-- 'sequentlaw28.GoalParts': WHATEVER THE INPUT: true; the input reads as it did. -/
def goalPartsSpec : ChangeSpec := { name := "goalParts", fn := fun _ => fun
  | [d1, d2, d3, d4, d5] => { results := [.lit (.bool true)], args := [d1, d2, d3, d4, d5] }
  | _ => none }
def goalPartsRow : OpenClaim := { program := "ytjfjcmfncgfhoaa", sum := "b280b1a989c8f37dacb5078a0ddf9d1e335b434e0a86b83feee3ab1fa3d7c90b", func := "sequent/sequentlaw28.GoalParts", spec := "goalParts", inPlace := ["internal/bytealg.abigen_runtime_cmpstring", "slices.overlaps[sequent/api.Term]"], unfollowed := true, recurses := true, loops := true, apart := false }
def GoalPartsSaid : Prop := goalPartsRow.holds Try.pinned (OpenSpec.ofChange goalPartsSpec)

/-- ITS FALSE NEIGHBOUR: 'it returns false'. Refute it at one input. -/
def goalPartsWrong : ChangeSpec := { name := "goalParts", fn := fun _ => fun
  | [d1, d2, d3, d4, d5] => { results := [.lit (.bool false)], args := [d1, d2, d3, d4, d5] }
  | _ => none }
def GoalPartsWrongFalsely : Prop := goalPartsRow.holds Try.pinned (OpenSpec.ofChange goalPartsWrong)

/- THE SECOND FORM. 'bulk': how many values and letters a reading holds, each counted each time it is reached (what is shared counts as often as it is met; a slice's spare places count too). A statement '..UptoSaid' is the law's where the arguments, and the package variables that the reading takes, are together of bulk at most 1048576: NARROWER than '..Said'. Prove '..Said' where nothing that the law and all that it calls make is longer than what came in: it says more and counts as full. Else prove '..UptoSaid'. A law counts once. -/
mutual
def uptoBulk {H : Type} : DataW H → Nat
  | .lit (.string bytes) => bytes.length + 1
  | .lit _ => 1
  | .nil => 1
  | .ptr d => uptoBulk d + 1
  | .slice elems spare => uptoBulkAll elems + uptoBulkAll spare + 1
  | .agg parts => uptoBulkAll parts + 1
  | .iface _ d => uptoBulk d + 1
  | .map entries => uptoBulkEntries entries + 1
  | .held _ => 1
def uptoBulkAll {H : Type} : List (DataW H) → Nat
  | [] => 0
  | d :: r => uptoBulk d + uptoBulkAll r
def uptoBulkEntries {H : Type} : List (Lit × DataW H) → Nat
  | [] => 0
  | x :: r => uptoBulkEntry x + uptoBulkEntries r
def uptoBulkEntry {H : Type} : Lit × DataW H → Nat
  | (.string bytes, d) => bytes.length + uptoBulk d + 1
  | (_, d) => uptoBulk d + 1
 end
def uptoSmall : (H : Type) → List (DataW H) → Bool := fun _ ds => decide (uptoBulkAll ds ≤ 1048576)
def OpenSpec.upto (s : _root_.Go.ChangeSpec) : _root_.Go.OpenSpec := { _root_.Go.OpenSpec.ofChange s with cond := some uptoSmall }

/-- 'sequentlaw10.QuantifierTerms', WHERE WHAT IT READS IS OF BULK AT MOST 1048576: true; the input reads as it did. -/
def quantifierTermsUptoRow : OpenClaim := { program := "ytjfjcmfncgfhoaa", sum := "b280b1a989c8f37dacb5078a0ddf9d1e335b434e0a86b83feee3ab1fa3d7c90b", func := "sequent/sequentlaw10.QuantifierTerms", spec := "quantifierTerms", inPlace := ["internal/bytealg.abigen_runtime_cmpstring"], unfollowed := true, recurses := true, loops := true, apart := false, narrowed := true }
def QuantifierTermsUptoSaid : Prop := quantifierTermsUptoRow.holds Try.pinned (OpenSpec.upto quantifierTermsSpec)

/-- 'sequentlaw11.ClassicalTerms', WHERE WHAT IT READS IS OF BULK AT MOST 1048576: true; the input reads as it did. -/
def classicalTermsUptoRow : OpenClaim := { program := "ytjfjcmfncgfhoaa", sum := "b280b1a989c8f37dacb5078a0ddf9d1e335b434e0a86b83feee3ab1fa3d7c90b", func := "sequent/sequentlaw11.ClassicalTerms", spec := "classicalTerms", inPlace := ["internal/bytealg.abigen_runtime_cmpstring"], unfollowed := true, recurses := true, loops := true, apart := false, narrowed := true }
def ClassicalTermsUptoSaid : Prop := classicalTermsUptoRow.holds Try.pinned (OpenSpec.upto classicalTermsSpec)

/-- 'sequentlaw28.GoalParts', WHERE WHAT IT READS IS OF BULK AT MOST 1048576: true; the input reads as it did. -/
def goalPartsUptoRow : OpenClaim := { program := "ytjfjcmfncgfhoaa", sum := "b280b1a989c8f37dacb5078a0ddf9d1e335b434e0a86b83feee3ab1fa3d7c90b", func := "sequent/sequentlaw28.GoalParts", spec := "goalParts", inPlace := ["internal/bytealg.abigen_runtime_cmpstring", "slices.overlaps[sequent/api.Term]"], unfollowed := true, recurses := true, loops := true, apart := false, narrowed := true }
def GoalPartsUptoSaid : Prop := goalPartsUptoRow.holds Try.pinned (OpenSpec.upto goalPartsSpec)

end Rows
end Go.Proofs.Ytjfjcmfncgfhoaa
