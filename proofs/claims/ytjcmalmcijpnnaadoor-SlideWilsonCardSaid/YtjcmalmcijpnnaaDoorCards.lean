/-
  DERIVED. GIVEN WITH THE SEED: THE CARDS: each row of YtjcmalmcijpnnaaDoorRows.lean that lists a variable, with what it lists TIED to the program's text (the seventh form; the later family's looks); each row that meets fmt, with fmt's text TOLD by the authors' own Lean function (tested against real Go, not proved from fmt's source: count such statements apart). THE CARD IS WHAT COUNTS. Prove the row's statement (the work); the ties are given (YtjcmalmcijpnnaaDoorTie.lean); close each card by the builder's one call (the guide's Derived/Test/ToyasCard.lean, 'card_holds'). Laid BY PROGRAM, IN A SANDBOX (cutbox-door.mjs). By AI agents, Wed Nov 11 2026. No macro, syntax, notation, axiom, sorry.
-/
import Derived.Test.YtjcmalmcijpnnaaDoorRows
import GoSem.ClaimSeven
namespace Go.Proofs.YtjcmalmcijpnnaaDoor
namespace Rows

/-- THE TIED CARD OF 'squeegeelaw10.SlideGrids'. -/
def slideGridsCard : Claim7 := { stood := { row := slideGridsRow, standIns := [], harness := (true, "ecf9f90652c5f440a344b13de33f362384b36e8ea2c9dfdecd455b41eaca66b6"), looks := false }, kinds := [], alts := [], laidByText := true, laidKinds := [.data, .data], laidTests := true, laidLooks := .later }
def SlideGridsCardSaid : Prop := Claim7.holds Tryd.pinned (.plain (OpenSpec.ofChange slideGridsSpec)) slideGridsCard

/-- THE TIED CARD OF 'squeegeelaw10.SlideSizes'. -/
def slideSizesCard : Claim7 := { stood := { row := slideSizesRow, standIns := [], harness := (true, "ecf9f90652c5f440a344b13de33f362384b36e8ea2c9dfdecd455b41eaca66b6"), looks := false }, kinds := [], alts := [], laidByText := true, laidKinds := [.data, .data], laidTests := true, laidLooks := .later }
def SlideSizesCardSaid : Prop := Claim7.holds Tryd.pinned (.plain (OpenSpec.ofChange slideSizesSpec)) slideSizesCard

/-- THE TIED CARD OF 'squeegeelaw10.SlideGreat'. -/
def slideGreatCard : Claim7 := { stood := { row := slideGreatRow, standIns := [], harness := (true, "ecf9f90652c5f440a344b13de33f362384b36e8ea2c9dfdecd455b41eaca66b6"), looks := false }, kinds := [], alts := [], laidByText := true, laidKinds := [.data, .data], laidTests := true, laidLooks := .later }
def SlideGreatCardSaid : Prop := Claim7.holds Tryd.pinned (.plain (OpenSpec.ofChange slideGreatSpec)) slideGreatCard

/-- THE TIED CARD OF 'squeegeelaw10.SlideSolves'. -/
def slideSolvesCard : Claim7 := { stood := { row := slideSolvesRow, standIns := [], harness := (true, "ecf9f90652c5f440a344b13de33f362384b36e8ea2c9dfdecd455b41eaca66b6"), looks := false }, kinds := [], alts := [], laidByText := true, laidKinds := [.data, .data], laidTests := true, laidLooks := .later }
def SlideSolvesCardSaid : Prop := Claim7.holds Tryd.pinned (.plain (OpenSpec.ofChange slideSolvesSpec)) slideSolvesCard

/-- THE TIED CARD OF 'squeegeelaw10.SlideApplies'. -/
def slideAppliesCard : Claim7 := { stood := { row := slideAppliesRow, standIns := [], harness := (true, "ecf9f90652c5f440a344b13de33f362384b36e8ea2c9dfdecd455b41eaca66b6"), looks := false }, kinds := [], alts := [], laidByText := true, laidKinds := [.data, .data], laidTests := true, laidLooks := .later }
def SlideAppliesCardSaid : Prop := Claim7.holds Tryd.pinned (.plain (OpenSpec.ofChange slideAppliesSpec)) slideAppliesCard

/-- THE TIED CARD OF 'squeegeelaw10.SlideBack'. -/
def slideBackCard : Claim7 := { stood := { row := slideBackRow, standIns := [], harness := (true, "ecf9f90652c5f440a344b13de33f362384b36e8ea2c9dfdecd455b41eaca66b6"), looks := false }, kinds := [], alts := [], laidByText := true, laidKinds := [.data, .data], laidTests := true, laidLooks := .later }
def SlideBackCardSaid : Prop := Claim7.holds Tryd.pinned (.plain (OpenSpec.ofChange slideBackSpec)) slideBackCard

/-- THE TIED CARD OF 'squeegeelaw10.SlideBoards'. -/
def slideBoardsCard : Claim7 := { stood := { row := slideBoardsRow, standIns := [], harness := (true, "ecf9f90652c5f440a344b13de33f362384b36e8ea2c9dfdecd455b41eaca66b6"), looks := false }, kinds := [], alts := [], laidByText := true, laidKinds := [.data, .data], laidTests := true, laidLooks := .later }
def SlideBoardsCardSaid : Prop := Claim7.holds Tryd.pinned (.plain (OpenSpec.ofChange slideBoardsSpec)) slideBoardsCard

/-- THE TIED CARD OF 'squeegeelaw10.SlideWilson'. -/
def slideWilsonCard : Claim7 := { stood := { row := slideWilsonRow, standIns := [], harness := (true, "ecf9f90652c5f440a344b13de33f362384b36e8ea2c9dfdecd455b41eaca66b6"), looks := false }, kinds := [], alts := [], laidByText := true, laidKinds := [.data, .data], laidTests := true, laidLooks := .later }
def SlideWilsonCardSaid : Prop := Claim7.holds Tryd.pinned (.plain (OpenSpec.ofChange slideWilsonSpec)) slideWilsonCard

/-- THE TIED CARD OF 'squeegeelaw10.SlideChecks'. -/
def slideChecksCard : Claim7 := { stood := { row := slideChecksRow, standIns := [], harness := (true, "ecf9f90652c5f440a344b13de33f362384b36e8ea2c9dfdecd455b41eaca66b6"), looks := false }, kinds := [], alts := [], laidByText := true, laidKinds := [.data, .data], laidTests := true, laidLooks := .later }
def SlideChecksCardSaid : Prop := Claim7.holds Tryd.pinned (.plain (OpenSpec.ofChange slideChecksSpec)) slideChecksCard

/-- THE SECOND FORM's CARD OF 'squeegeelaw10.SlideGrids'. -/
def slideGridsUptoCard : Claim7 := { stood := { row := slideGridsUptoRow, standIns := [], harness := (true, "ecf9f90652c5f440a344b13de33f362384b36e8ea2c9dfdecd455b41eaca66b6"), looks := false }, kinds := [], alts := [], laidByText := true, laidKinds := [.data, .data], laidTests := true, laidLooks := .later }
def SlideGridsUptoCardSaid : Prop := Claim7.holds Tryd.pinned (.plain (OpenSpec.upto slideGridsSpec)) slideGridsUptoCard

/-- THE SECOND FORM's CARD OF 'squeegeelaw10.SlideSizes'. -/
def slideSizesUptoCard : Claim7 := { stood := { row := slideSizesUptoRow, standIns := [], harness := (true, "ecf9f90652c5f440a344b13de33f362384b36e8ea2c9dfdecd455b41eaca66b6"), looks := false }, kinds := [], alts := [], laidByText := true, laidKinds := [.data, .data], laidTests := true, laidLooks := .later }
def SlideSizesUptoCardSaid : Prop := Claim7.holds Tryd.pinned (.plain (OpenSpec.upto slideSizesSpec)) slideSizesUptoCard

/-- THE SECOND FORM's CARD OF 'squeegeelaw10.SlideGreat'. -/
def slideGreatUptoCard : Claim7 := { stood := { row := slideGreatUptoRow, standIns := [], harness := (true, "ecf9f90652c5f440a344b13de33f362384b36e8ea2c9dfdecd455b41eaca66b6"), looks := false }, kinds := [], alts := [], laidByText := true, laidKinds := [.data, .data], laidTests := true, laidLooks := .later }
def SlideGreatUptoCardSaid : Prop := Claim7.holds Tryd.pinned (.plain (OpenSpec.upto slideGreatSpec)) slideGreatUptoCard

/-- THE SECOND FORM's CARD OF 'squeegeelaw10.SlideSolves'. -/
def slideSolvesUptoCard : Claim7 := { stood := { row := slideSolvesUptoRow, standIns := [], harness := (true, "ecf9f90652c5f440a344b13de33f362384b36e8ea2c9dfdecd455b41eaca66b6"), looks := false }, kinds := [], alts := [], laidByText := true, laidKinds := [.data, .data], laidTests := true, laidLooks := .later }
def SlideSolvesUptoCardSaid : Prop := Claim7.holds Tryd.pinned (.plain (OpenSpec.upto slideSolvesSpec)) slideSolvesUptoCard

/-- THE SECOND FORM's CARD OF 'squeegeelaw10.SlideApplies'. -/
def slideAppliesUptoCard : Claim7 := { stood := { row := slideAppliesUptoRow, standIns := [], harness := (true, "ecf9f90652c5f440a344b13de33f362384b36e8ea2c9dfdecd455b41eaca66b6"), looks := false }, kinds := [], alts := [], laidByText := true, laidKinds := [.data, .data], laidTests := true, laidLooks := .later }
def SlideAppliesUptoCardSaid : Prop := Claim7.holds Tryd.pinned (.plain (OpenSpec.upto slideAppliesSpec)) slideAppliesUptoCard

/-- THE SECOND FORM's CARD OF 'squeegeelaw10.SlideBack'. -/
def slideBackUptoCard : Claim7 := { stood := { row := slideBackUptoRow, standIns := [], harness := (true, "ecf9f90652c5f440a344b13de33f362384b36e8ea2c9dfdecd455b41eaca66b6"), looks := false }, kinds := [], alts := [], laidByText := true, laidKinds := [.data, .data], laidTests := true, laidLooks := .later }
def SlideBackUptoCardSaid : Prop := Claim7.holds Tryd.pinned (.plain (OpenSpec.upto slideBackSpec)) slideBackUptoCard

/-- THE SECOND FORM's CARD OF 'squeegeelaw10.SlideBoards'. -/
def slideBoardsUptoCard : Claim7 := { stood := { row := slideBoardsUptoRow, standIns := [], harness := (true, "ecf9f90652c5f440a344b13de33f362384b36e8ea2c9dfdecd455b41eaca66b6"), looks := false }, kinds := [], alts := [], laidByText := true, laidKinds := [.data, .data], laidTests := true, laidLooks := .later }
def SlideBoardsUptoCardSaid : Prop := Claim7.holds Tryd.pinned (.plain (OpenSpec.upto slideBoardsSpec)) slideBoardsUptoCard

/-- THE SECOND FORM's CARD OF 'squeegeelaw10.SlideWilson'. -/
def slideWilsonUptoCard : Claim7 := { stood := { row := slideWilsonUptoRow, standIns := [], harness := (true, "ecf9f90652c5f440a344b13de33f362384b36e8ea2c9dfdecd455b41eaca66b6"), looks := false }, kinds := [], alts := [], laidByText := true, laidKinds := [.data, .data], laidTests := true, laidLooks := .later }
def SlideWilsonUptoCardSaid : Prop := Claim7.holds Tryd.pinned (.plain (OpenSpec.upto slideWilsonSpec)) slideWilsonUptoCard

/-- THE SECOND FORM's CARD OF 'squeegeelaw10.SlideChecks'. -/
def slideChecksUptoCard : Claim7 := { stood := { row := slideChecksUptoRow, standIns := [], harness := (true, "ecf9f90652c5f440a344b13de33f362384b36e8ea2c9dfdecd455b41eaca66b6"), looks := false }, kinds := [], alts := [], laidByText := true, laidKinds := [.data, .data], laidTests := true, laidLooks := .later }
def SlideChecksUptoCardSaid : Prop := Claim7.holds Tryd.pinned (.plain (OpenSpec.upto slideChecksSpec)) slideChecksUptoCard
end Rows
end Go.Proofs.YtjcmalmcijpnnaaDoor
