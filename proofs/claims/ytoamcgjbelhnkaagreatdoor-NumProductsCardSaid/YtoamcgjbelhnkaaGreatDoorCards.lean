/-
  DERIVED. GIVEN WITH THE SEED: THE CARDS: each row of YtoamcgjbelhnkaaGreatDoorRows.lean that lists a variable, with what it lists TIED to the program's text (the seventh form; the later family's looks); each row that meets fmt, with fmt's text TOLD by the authors' own Lean function (tested against real Go, not proved from fmt's source: count such statements apart). THE CARD IS WHAT COUNTS. Prove the row's statement (the work); the ties are given (YtoamcgjbelhnkaaGreatDoorTie.lean); close each card by the builder's one call (the guide's Derived/Test/ToyasCard.lean, 'card_holds'). Laid BY PROGRAM, IN A SANDBOX (cutbox-door.mjs). By AI agents, Wed Nov 11 2026. No macro, syntax, notation, axiom, sorry.
-/
import Derived.Test.YtoamcgjbelhnkaaGreatDoorRows
import GoSem.ClaimSeven
namespace Go.Proofs.YtoamcgjbelhnkaaGreatDoor
namespace Rows

/-- THE TIED CARD OF 'squeegeelaw01.NumTexts'. -/
def numTextsCard : Claim7 := { stood := { row := numTextsRow, standIns := [], harness := (true, "f9f7b405f29ade0ad7b0cb06dd56138df953bc2259f5dda92336b88c46003070"), looks := true }, kinds := [], alts := [], laidByText := true, laidKinds := [.data, .data, .data, .data, .sentinel, .sentinel, .pinned], laidTests := true, laidLooks := .later }
def NumTextsCardSaid : Prop := Claim7.holds Tryz.pinned (.plain (OpenSpec.ofChange numTextsSpec)) numTextsCard

/-- THE TIED CARD OF 'squeegeelaw01.NumMakes'. -/
def numMakesCard : Claim7 := { stood := { row := numMakesRow, standIns := [], harness := (true, "f9f7b405f29ade0ad7b0cb06dd56138df953bc2259f5dda92336b88c46003070"), looks := true }, kinds := [], alts := [], laidByText := true, laidKinds := [.data, .data, .data, .data, .sentinel, .sentinel, .pinned], laidTests := true, laidLooks := .later }
def NumMakesCardSaid : Prop := Claim7.holds Tryz.pinned (.plain (OpenSpec.ofChange numMakesSpec)) numMakesCard

/-- THE TIED CARD OF 'squeegeelaw01.NumSolves'. -/
def numSolvesCard : Claim7 := { stood := { row := numSolvesRow, standIns := [], harness := (true, "f9f7b405f29ade0ad7b0cb06dd56138df953bc2259f5dda92336b88c46003070"), looks := true }, kinds := [], alts := [], laidByText := true, laidKinds := [.data, .data, .data, .data, .sentinel, .sentinel, .pinned], laidTests := true, laidLooks := .later }
def NumSolvesCardSaid : Prop := Claim7.holds Tryz.pinned (.plain (OpenSpec.ofChange numSolvesSpec)) numSolvesCard

/-- THE TIED CARD OF 'squeegeelaw01.NumSums'. -/
def numSumsCard : Claim7 := { stood := { row := numSumsRow, standIns := [], harness := (true, "f9f7b405f29ade0ad7b0cb06dd56138df953bc2259f5dda92336b88c46003070"), looks := true }, kinds := [], alts := [], laidByText := true, laidKinds := [.data, .data, .data, .data, .sentinel, .sentinel, .pinned], laidTests := true, laidLooks := .later }
def NumSumsCardSaid : Prop := Claim7.holds Tryz.pinned (.plain (OpenSpec.ofChange numSumsSpec)) numSumsCard

/-- THE TIED CARD OF 'squeegeelaw01.NumField'. -/
def numFieldCard : Claim7 := { stood := { row := numFieldRow, standIns := [], harness := (true, "f9f7b405f29ade0ad7b0cb06dd56138df953bc2259f5dda92336b88c46003070"), looks := true }, kinds := [], alts := [], laidByText := true, laidKinds := [.data, .data, .data, .data, .sentinel, .sentinel, .pinned], laidTests := true, laidLooks := .later }
def NumFieldCardSaid : Prop := Claim7.holds Tryz.pinned (.plain (OpenSpec.ofChange numFieldSpec)) numFieldCard

/-- THE TIED CARD OF 'squeegeelaw01.NumChecks'. -/
def numChecksCard : Claim7 := { stood := { row := numChecksRow, standIns := [], harness := (true, "f9f7b405f29ade0ad7b0cb06dd56138df953bc2259f5dda92336b88c46003070"), looks := true }, kinds := [], alts := [], laidByText := true, laidKinds := [.data, .data, .data, .data, .sentinel, .sentinel, .pinned], laidTests := true, laidLooks := .later }
def NumChecksCardSaid : Prop := Claim7.holds Tryz.pinned (.plain (OpenSpec.ofChange numChecksSpec)) numChecksCard

/-- THE TIED CARD OF 'squeegeelaw01.NumDets'. -/
def numDetsCard : Claim7 := { stood := { row := numDetsRow, standIns := [], harness := (true, "f9f7b405f29ade0ad7b0cb06dd56138df953bc2259f5dda92336b88c46003070"), looks := true }, kinds := [], alts := [], laidByText := true, laidKinds := [.data, .data, .data, .data, .sentinel, .sentinel, .pinned], laidTests := true, laidLooks := .later }
def NumDetsCardSaid : Prop := Claim7.holds Tryz.pinned (.plain (OpenSpec.ofChange numDetsSpec)) numDetsCard

/-- THE TIED CARD OF 'squeegeelaw01.NumProducts'. -/
def numProductsCard : Claim7 := { stood := { row := numProductsRow, standIns := [], harness := (true, "f9f7b405f29ade0ad7b0cb06dd56138df953bc2259f5dda92336b88c46003070"), looks := true }, kinds := [], alts := [], laidByText := true, laidKinds := [.data, .data, .data, .data, .sentinel, .sentinel, .pinned], laidTests := true, laidLooks := .later }
def NumProductsCardSaid : Prop := Claim7.holds Tryz.pinned (.plain (OpenSpec.ofChange numProductsSpec)) numProductsCard

/-- THE SECOND FORM's CARD OF 'squeegeelaw01.NumTexts'. -/
def numTextsUptoCard : Claim7 := { stood := { row := numTextsUptoRow, standIns := [], harness := (true, "f9f7b405f29ade0ad7b0cb06dd56138df953bc2259f5dda92336b88c46003070"), looks := true }, kinds := [], alts := [], laidByText := true, laidKinds := [.data, .data, .data, .data, .sentinel, .sentinel, .pinned], laidTests := true, laidLooks := .later }
def NumTextsUptoCardSaid : Prop := Claim7.holds Tryz.pinned (.plain (OpenSpec.upto numTextsSpec)) numTextsUptoCard

/-- THE SECOND FORM's CARD OF 'squeegeelaw01.NumMakes'. -/
def numMakesUptoCard : Claim7 := { stood := { row := numMakesUptoRow, standIns := [], harness := (true, "f9f7b405f29ade0ad7b0cb06dd56138df953bc2259f5dda92336b88c46003070"), looks := true }, kinds := [], alts := [], laidByText := true, laidKinds := [.data, .data, .data, .data, .sentinel, .sentinel, .pinned], laidTests := true, laidLooks := .later }
def NumMakesUptoCardSaid : Prop := Claim7.holds Tryz.pinned (.plain (OpenSpec.upto numMakesSpec)) numMakesUptoCard

/-- THE SECOND FORM's CARD OF 'squeegeelaw01.NumSolves'. -/
def numSolvesUptoCard : Claim7 := { stood := { row := numSolvesUptoRow, standIns := [], harness := (true, "f9f7b405f29ade0ad7b0cb06dd56138df953bc2259f5dda92336b88c46003070"), looks := true }, kinds := [], alts := [], laidByText := true, laidKinds := [.data, .data, .data, .data, .sentinel, .sentinel, .pinned], laidTests := true, laidLooks := .later }
def NumSolvesUptoCardSaid : Prop := Claim7.holds Tryz.pinned (.plain (OpenSpec.upto numSolvesSpec)) numSolvesUptoCard

/-- THE SECOND FORM's CARD OF 'squeegeelaw01.NumSums'. -/
def numSumsUptoCard : Claim7 := { stood := { row := numSumsUptoRow, standIns := [], harness := (true, "f9f7b405f29ade0ad7b0cb06dd56138df953bc2259f5dda92336b88c46003070"), looks := true }, kinds := [], alts := [], laidByText := true, laidKinds := [.data, .data, .data, .data, .sentinel, .sentinel, .pinned], laidTests := true, laidLooks := .later }
def NumSumsUptoCardSaid : Prop := Claim7.holds Tryz.pinned (.plain (OpenSpec.upto numSumsSpec)) numSumsUptoCard

/-- THE SECOND FORM's CARD OF 'squeegeelaw01.NumField'. -/
def numFieldUptoCard : Claim7 := { stood := { row := numFieldUptoRow, standIns := [], harness := (true, "f9f7b405f29ade0ad7b0cb06dd56138df953bc2259f5dda92336b88c46003070"), looks := true }, kinds := [], alts := [], laidByText := true, laidKinds := [.data, .data, .data, .data, .sentinel, .sentinel, .pinned], laidTests := true, laidLooks := .later }
def NumFieldUptoCardSaid : Prop := Claim7.holds Tryz.pinned (.plain (OpenSpec.upto numFieldSpec)) numFieldUptoCard

/-- THE SECOND FORM's CARD OF 'squeegeelaw01.NumChecks'. -/
def numChecksUptoCard : Claim7 := { stood := { row := numChecksUptoRow, standIns := [], harness := (true, "f9f7b405f29ade0ad7b0cb06dd56138df953bc2259f5dda92336b88c46003070"), looks := true }, kinds := [], alts := [], laidByText := true, laidKinds := [.data, .data, .data, .data, .sentinel, .sentinel, .pinned], laidTests := true, laidLooks := .later }
def NumChecksUptoCardSaid : Prop := Claim7.holds Tryz.pinned (.plain (OpenSpec.upto numChecksSpec)) numChecksUptoCard

/-- THE SECOND FORM's CARD OF 'squeegeelaw01.NumDets'. -/
def numDetsUptoCard : Claim7 := { stood := { row := numDetsUptoRow, standIns := [], harness := (true, "f9f7b405f29ade0ad7b0cb06dd56138df953bc2259f5dda92336b88c46003070"), looks := true }, kinds := [], alts := [], laidByText := true, laidKinds := [.data, .data, .data, .data, .sentinel, .sentinel, .pinned], laidTests := true, laidLooks := .later }
def NumDetsUptoCardSaid : Prop := Claim7.holds Tryz.pinned (.plain (OpenSpec.upto numDetsSpec)) numDetsUptoCard

/-- THE SECOND FORM's CARD OF 'squeegeelaw01.NumProducts'. -/
def numProductsUptoCard : Claim7 := { stood := { row := numProductsUptoRow, standIns := [], harness := (true, "f9f7b405f29ade0ad7b0cb06dd56138df953bc2259f5dda92336b88c46003070"), looks := true }, kinds := [], alts := [], laidByText := true, laidKinds := [.data, .data, .data, .data, .sentinel, .sentinel, .pinned], laidTests := true, laidLooks := .later }
def NumProductsUptoCardSaid : Prop := Claim7.holds Tryz.pinned (.plain (OpenSpec.upto numProductsSpec)) numProductsUptoCard
end Rows
end Go.Proofs.YtoamcgjbelhnkaaGreatDoor
