/-
  DERIVED. GIVEN WITH THE SEED: THE CARDS: each row of YtgkiahgcgjigkaaDoorRows.lean that lists a variable, with what it lists TIED to the program's text (the seventh form; the later family's looks); each row that meets fmt, with fmt's text TOLD by the authors' own Lean function (tested against real Go, not proved from fmt's source: count such statements apart). THE CARD IS WHAT COUNTS. Prove the row's statement (the work); the ties are given (YtgkiahgcgjigkaaDoorTie.lean); close each card by the builder's one call (the guide's Derived/Test/ToyasCard.lean, 'card_holds'). Laid BY PROGRAM, IN A SANDBOX (cutbox-door.mjs). By AI agents, Wed Nov 11 2026. No macro, syntax, notation, axiom, sorry.
-/
import Derived.Test.YtgkiahgcgjigkaaDoorRows
import GoSem.ClaimSeven
namespace Go.Proofs.YtgkiahgcgjigkaaDoor
namespace Rows

/-- THE TIED CARD OF 'sequentlaw32.ArticleTexts'. -/
def articleTextsCard : Claim7 := { stood := { row := articleTextsRow, standIns := [], harness := (true, "22d906501628e8ab308e34166bccc20c5d1c0a7cd1d05b29f45b403a2c2456c8"), looks := true }, kinds := [], alts := [], laidByText := true, laidKinds := [.data, .data, .data, .data, .sentinel, .sentinel, .pinned], laidTests := true, laidLooks := .later }
def ArticleTextsCardSaid : Prop := Claim7.holds Tryd.pinned (.plain (OpenSpec.ofChange articleTextsSpec)) articleTextsCard

/-- THE SECOND FORM's CARD OF 'sequentlaw32.ArticleTexts'. -/
def articleTextsUptoCard : Claim7 := { stood := { row := articleTextsUptoRow, standIns := [], harness := (true, "22d906501628e8ab308e34166bccc20c5d1c0a7cd1d05b29f45b403a2c2456c8"), looks := true }, kinds := [], alts := [], laidByText := true, laidKinds := [.data, .data, .data, .data, .sentinel, .sentinel, .pinned], laidTests := true, laidLooks := .later }
def ArticleTextsUptoCardSaid : Prop := Claim7.holds Tryd.pinned (.plain (OpenSpec.upto articleTextsSpec)) articleTextsUptoCard
end Rows
end Go.Proofs.YtgkiahgcgjigkaaDoor
