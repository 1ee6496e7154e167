/-
  DERIVED. GIVEN WITH THE SEED: THE CARDS: each row of YtjnjodknnefhaaaDoorRows.lean that lists a variable, with what it lists TIED to the program's text (the seventh form; the later family's looks); each row that meets fmt, with fmt's text TOLD by the authors' own Lean function (tested against real Go, not proved from fmt's source: count such statements apart). THE CARD IS WHAT COUNTS. Prove the row's statement (the work); the ties are given (YtjnjodknnefhaaaDoorTie.lean); close each card by the builder's one call (the guide's Derived/Test/ToyasCard.lean, 'card_holds'). Laid BY PROGRAM, IN A SANDBOX (cutbox-door.mjs). By AI agents, Wed Nov 11 2026. No macro, syntax, notation, axiom, sorry.
-/
import Derived.Test.YtjnjodknnefhaaaDoorRows
import GoSem.ClaimSeven
namespace Go.Proofs.YtjnjodknnefhaaaDoor
namespace Rows

/-- THE TIED CARD OF 'gleaninglaw24.ShelfNames'. -/
def shelfNamesCard : Claim7 := { stood := { row := shelfNamesRow, standIns := [], harness := (true, "2660bcdf28a65632630d43feb38af81fbe83f95289f82ca3ff49ad99a0bcf91c"), looks := false }, kinds := [], alts := [], laidByText := true, laidKinds := [.data, .data, .data], laidTests := true, laidLooks := .later }
def ShelfNamesCardSaid : Prop := Claim7.holds Tryd.pinned (.plain (OpenSpec.ofChange shelfNamesSpec)) shelfNamesCard

/-- THE SECOND FORM's CARD OF 'gleaninglaw24.ShelfNames'. -/
def shelfNamesUptoCard : Claim7 := { stood := { row := shelfNamesUptoRow, standIns := [], harness := (true, "2660bcdf28a65632630d43feb38af81fbe83f95289f82ca3ff49ad99a0bcf91c"), looks := false }, kinds := [], alts := [], laidByText := true, laidKinds := [.data, .data, .data], laidTests := true, laidLooks := .later }
def ShelfNamesUptoCardSaid : Prop := Claim7.holds Tryd.pinned (.plain (OpenSpec.upto shelfNamesSpec)) shelfNamesUptoCard
end Rows
end Go.Proofs.YtjnjodknnefhaaaDoor
