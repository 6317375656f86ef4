/-
  DERIVED. GIVEN WITH THE SEED: THE CARDS: each row of YtepakfjilnpodaaGreatDoorRows.lean that lists a variable, with what it lists TIED to the program's text (the seventh form; the later family's looks); each row that meets fmt, with fmt's text TOLD by the authors' own Lean function (tested against real Go, not proved from fmt's source: count such statements apart). THE CARD IS WHAT COUNTS. Prove the row's statement (the work); the ties are given (YtepakfjilnpodaaGreatDoorTie.lean); close each card by the builder's one call (the guide's Derived/Test/ToyasCard.lean, 'card_holds'). Laid BY PROGRAM, IN A SANDBOX (cutbox-door.mjs). By AI agents, Wed Nov 11 2026. No macro, syntax, notation, axiom, sorry.
-/
import Derived.Test.YtepakfjilnpodaaGreatDoorRows
import GoSem.ClaimSeven
namespace Go.Proofs.YtepakfjilnpodaaGreatDoor
namespace Rows

/-- THE TIED CARD OF 'squeegeelaw06.WalkPascal'. -/
def walkPascalCard : Claim7 := { stood := { row := walkPascalRow, standIns := [], harness := (true, "23cfc2b303dc37f5ac8eaae3e7209add9a64563ed76d9e0969ac1ff07fc2f335"), looks := true }, kinds := [], alts := [], laidByText := true, laidKinds := [.data, .data, .data], laidTests := true, laidLooks := .later }
def WalkPascalCardSaid : Prop := Claim7.holds Tryz.pinned (.plain (OpenSpec.ofChange walkPascalSpec)) walkPascalCard

/-- THE TIED CARD OF 'squeegeelaw06.WalkShares'. -/
def walkSharesCard : Claim7 := { stood := { row := walkSharesRow, standIns := [], harness := (true, "23cfc2b303dc37f5ac8eaae3e7209add9a64563ed76d9e0969ac1ff07fc2f335"), looks := true }, kinds := [], alts := [], laidByText := true, laidKinds := [.data, .data, .data, .data, .sentinel, .sentinel, .pinned], laidTests := true, laidLooks := .later }
def WalkSharesCardSaid : Prop := Claim7.holds Tryz.pinned (.plain (OpenSpec.ofChange walkSharesSpec)) walkSharesCard

/-- THE TIED CARD OF 'squeegeelaw06.WalkRuin'. -/
def walkRuinCard : Claim7 := { stood := { row := walkRuinRow, standIns := [], harness := (true, "23cfc2b303dc37f5ac8eaae3e7209add9a64563ed76d9e0969ac1ff07fc2f335"), looks := true }, kinds := [], alts := [], laidByText := true, laidKinds := [.data, .data, .data, .data, .sentinel, .sentinel, .pinned], laidTests := true, laidLooks := .later }
def WalkRuinCardSaid : Prop := Claim7.holds Tryz.pinned (.plain (OpenSpec.ofChange walkRuinSpec)) walkRuinCard

/-- THE TIED CARD OF 'squeegeelaw06.WalkAfter'. -/
def walkAfterCard : Claim7 := { stood := { row := walkAfterRow, standIns := [], harness := (true, "23cfc2b303dc37f5ac8eaae3e7209add9a64563ed76d9e0969ac1ff07fc2f335"), looks := true }, kinds := [], alts := [], laidByText := true, laidKinds := [.data, .data, .data, .data, .sentinel, .sentinel, .pinned], laidTests := true, laidLooks := .later }
def WalkAfterCardSaid : Prop := Claim7.holds Tryz.pinned (.plain (OpenSpec.ofChange walkAfterSpec)) walkAfterCard

/-- THE TIED CARD OF 'squeegeelaw06.WalkKac'. -/
def walkKacCard : Claim7 := { stood := { row := walkKacRow, standIns := [], harness := (true, "23cfc2b303dc37f5ac8eaae3e7209add9a64563ed76d9e0969ac1ff07fc2f335"), looks := true }, kinds := [], alts := [], laidByText := true, laidKinds := [.data, .data, .data, .data, .sentinel, .sentinel, .pinned], laidTests := true, laidLooks := .later }
def WalkKacCardSaid : Prop := Claim7.holds Tryz.pinned (.plain (OpenSpec.ofChange walkKacSpec)) walkKacCard

/-- THE TIED CARD OF 'squeegeelaw06.WalkClasses'. -/
def walkClassesCard : Claim7 := { stood := { row := walkClassesRow, standIns := [], harness := (true, "23cfc2b303dc37f5ac8eaae3e7209add9a64563ed76d9e0969ac1ff07fc2f335"), looks := true }, kinds := [], alts := [], laidByText := true, laidKinds := [.data, .data, .data, .data, .sentinel, .sentinel, .pinned], laidTests := true, laidLooks := .later }
def WalkClassesCardSaid : Prop := Claim7.holds Tryz.pinned (.plain (OpenSpec.ofChange walkClassesSpec)) walkClassesCard

/-- THE TIED CARD OF 'squeegeelaw06.WalkReaches'. -/
def walkReachesCard : Claim7 := { stood := { row := walkReachesRow, standIns := [], harness := (true, "23cfc2b303dc37f5ac8eaae3e7209add9a64563ed76d9e0969ac1ff07fc2f335"), looks := true }, kinds := [], alts := [], laidByText := true, laidKinds := [.data, .data, .data, .data, .sentinel, .sentinel, .pinned], laidTests := true, laidLooks := .later }
def WalkReachesCardSaid : Prop := Claim7.holds Tryz.pinned (.plain (OpenSpec.ofChange walkReachesSpec)) walkReachesCard

/-- THE TIED CARD OF 'squeegeelaw06.WalkBack'. -/
def walkBackCard : Claim7 := { stood := { row := walkBackRow, standIns := [], harness := (true, "23cfc2b303dc37f5ac8eaae3e7209add9a64563ed76d9e0969ac1ff07fc2f335"), looks := true }, kinds := [], alts := [], laidByText := true, laidKinds := [.data, .data, .data, .data, .sentinel, .sentinel, .pinned], laidTests := true, laidLooks := .later }
def WalkBackCardSaid : Prop := Claim7.holds Tryz.pinned (.plain (OpenSpec.ofChange walkBackSpec)) walkBackCard

/-- THE TIED CARD OF 'squeegeelaw06.WalkKolmogorov'. -/
def walkKolmogorovCard : Claim7 := { stood := { row := walkKolmogorovRow, standIns := [], harness := (true, "23cfc2b303dc37f5ac8eaae3e7209add9a64563ed76d9e0969ac1ff07fc2f335"), looks := true }, kinds := [], alts := [], laidByText := true, laidKinds := [.data, .data, .data, .data, .sentinel, .sentinel, .pinned], laidTests := true, laidLooks := .later }
def WalkKolmogorovCardSaid : Prop := Claim7.holds Tryz.pinned (.plain (OpenSpec.ofChange walkKolmogorovSpec)) walkKolmogorovCard

/-- THE TIED CARD OF 'squeegeelaw06.WalkChecks'. -/
def walkChecksCard : Claim7 := { stood := { row := walkChecksRow, standIns := [], harness := (true, "23cfc2b303dc37f5ac8eaae3e7209add9a64563ed76d9e0969ac1ff07fc2f335"), looks := true }, kinds := [], alts := [], laidByText := true, laidKinds := [.data, .data, .data, .data, .sentinel, .sentinel, .pinned], laidTests := true, laidLooks := .later }
def WalkChecksCardSaid : Prop := Claim7.holds Tryz.pinned (.plain (OpenSpec.ofChange walkChecksSpec)) walkChecksCard

/-- THE SECOND FORM's CARD OF 'squeegeelaw06.WalkPascal'. -/
def walkPascalUptoCard : Claim7 := { stood := { row := walkPascalUptoRow, standIns := [], harness := (true, "23cfc2b303dc37f5ac8eaae3e7209add9a64563ed76d9e0969ac1ff07fc2f335"), looks := true }, kinds := [], alts := [], laidByText := true, laidKinds := [.data, .data, .data], laidTests := true, laidLooks := .later }
def WalkPascalUptoCardSaid : Prop := Claim7.holds Tryz.pinned (.plain (OpenSpec.upto walkPascalSpec)) walkPascalUptoCard

/-- THE SECOND FORM's CARD OF 'squeegeelaw06.WalkShares'. -/
def walkSharesUptoCard : Claim7 := { stood := { row := walkSharesUptoRow, standIns := [], harness := (true, "23cfc2b303dc37f5ac8eaae3e7209add9a64563ed76d9e0969ac1ff07fc2f335"), looks := true }, kinds := [], alts := [], laidByText := true, laidKinds := [.data, .data, .data, .data, .sentinel, .sentinel, .pinned], laidTests := true, laidLooks := .later }
def WalkSharesUptoCardSaid : Prop := Claim7.holds Tryz.pinned (.plain (OpenSpec.upto walkSharesSpec)) walkSharesUptoCard

/-- THE SECOND FORM's CARD OF 'squeegeelaw06.WalkRuin'. -/
def walkRuinUptoCard : Claim7 := { stood := { row := walkRuinUptoRow, standIns := [], harness := (true, "23cfc2b303dc37f5ac8eaae3e7209add9a64563ed76d9e0969ac1ff07fc2f335"), looks := true }, kinds := [], alts := [], laidByText := true, laidKinds := [.data, .data, .data, .data, .sentinel, .sentinel, .pinned], laidTests := true, laidLooks := .later }
def WalkRuinUptoCardSaid : Prop := Claim7.holds Tryz.pinned (.plain (OpenSpec.upto walkRuinSpec)) walkRuinUptoCard

/-- THE SECOND FORM's CARD OF 'squeegeelaw06.WalkAfter'. -/
def walkAfterUptoCard : Claim7 := { stood := { row := walkAfterUptoRow, standIns := [], harness := (true, "23cfc2b303dc37f5ac8eaae3e7209add9a64563ed76d9e0969ac1ff07fc2f335"), looks := true }, kinds := [], alts := [], laidByText := true, laidKinds := [.data, .data, .data, .data, .sentinel, .sentinel, .pinned], laidTests := true, laidLooks := .later }
def WalkAfterUptoCardSaid : Prop := Claim7.holds Tryz.pinned (.plain (OpenSpec.upto walkAfterSpec)) walkAfterUptoCard

/-- THE SECOND FORM's CARD OF 'squeegeelaw06.WalkKac'. -/
def walkKacUptoCard : Claim7 := { stood := { row := walkKacUptoRow, standIns := [], harness := (true, "23cfc2b303dc37f5ac8eaae3e7209add9a64563ed76d9e0969ac1ff07fc2f335"), looks := true }, kinds := [], alts := [], laidByText := true, laidKinds := [.data, .data, .data, .data, .sentinel, .sentinel, .pinned], laidTests := true, laidLooks := .later }
def WalkKacUptoCardSaid : Prop := Claim7.holds Tryz.pinned (.plain (OpenSpec.upto walkKacSpec)) walkKacUptoCard

/-- THE SECOND FORM's CARD OF 'squeegeelaw06.WalkClasses'. -/
def walkClassesUptoCard : Claim7 := { stood := { row := walkClassesUptoRow, standIns := [], harness := (true, "23cfc2b303dc37f5ac8eaae3e7209add9a64563ed76d9e0969ac1ff07fc2f335"), looks := true }, kinds := [], alts := [], laidByText := true, laidKinds := [.data, .data, .data, .data, .sentinel, .sentinel, .pinned], laidTests := true, laidLooks := .later }
def WalkClassesUptoCardSaid : Prop := Claim7.holds Tryz.pinned (.plain (OpenSpec.upto walkClassesSpec)) walkClassesUptoCard

/-- THE SECOND FORM's CARD OF 'squeegeelaw06.WalkReaches'. -/
def walkReachesUptoCard : Claim7 := { stood := { row := walkReachesUptoRow, standIns := [], harness := (true, "23cfc2b303dc37f5ac8eaae3e7209add9a64563ed76d9e0969ac1ff07fc2f335"), looks := true }, kinds := [], alts := [], laidByText := true, laidKinds := [.data, .data, .data, .data, .sentinel, .sentinel, .pinned], laidTests := true, laidLooks := .later }
def WalkReachesUptoCardSaid : Prop := Claim7.holds Tryz.pinned (.plain (OpenSpec.upto walkReachesSpec)) walkReachesUptoCard

/-- THE SECOND FORM's CARD OF 'squeegeelaw06.WalkBack'. -/
def walkBackUptoCard : Claim7 := { stood := { row := walkBackUptoRow, standIns := [], harness := (true, "23cfc2b303dc37f5ac8eaae3e7209add9a64563ed76d9e0969ac1ff07fc2f335"), looks := true }, kinds := [], alts := [], laidByText := true, laidKinds := [.data, .data, .data, .data, .sentinel, .sentinel, .pinned], laidTests := true, laidLooks := .later }
def WalkBackUptoCardSaid : Prop := Claim7.holds Tryz.pinned (.plain (OpenSpec.upto walkBackSpec)) walkBackUptoCard

/-- THE SECOND FORM's CARD OF 'squeegeelaw06.WalkKolmogorov'. -/
def walkKolmogorovUptoCard : Claim7 := { stood := { row := walkKolmogorovUptoRow, standIns := [], harness := (true, "23cfc2b303dc37f5ac8eaae3e7209add9a64563ed76d9e0969ac1ff07fc2f335"), looks := true }, kinds := [], alts := [], laidByText := true, laidKinds := [.data, .data, .data, .data, .sentinel, .sentinel, .pinned], laidTests := true, laidLooks := .later }
def WalkKolmogorovUptoCardSaid : Prop := Claim7.holds Tryz.pinned (.plain (OpenSpec.upto walkKolmogorovSpec)) walkKolmogorovUptoCard

/-- THE SECOND FORM's CARD OF 'squeegeelaw06.WalkChecks'. -/
def walkChecksUptoCard : Claim7 := { stood := { row := walkChecksUptoRow, standIns := [], harness := (true, "23cfc2b303dc37f5ac8eaae3e7209add9a64563ed76d9e0969ac1ff07fc2f335"), looks := true }, kinds := [], alts := [], laidByText := true, laidKinds := [.data, .data, .data, .data, .sentinel, .sentinel, .pinned], laidTests := true, laidLooks := .later }
def WalkChecksUptoCardSaid : Prop := Claim7.holds Tryz.pinned (.plain (OpenSpec.upto walkChecksSpec)) walkChecksUptoCard
end Rows
end Go.Proofs.YtepakfjilnpodaaGreatDoor
