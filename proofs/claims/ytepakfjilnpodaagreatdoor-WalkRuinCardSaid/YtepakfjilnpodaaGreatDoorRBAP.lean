/-
  The facts of WalkRuin's row, one by one.
  Conditions: none.
-/
import Derived.Test.YtepakfjilnpodaaGreatDoorRBAO
namespace Go.Proofs.YtepakfjilnpodaaGreatDoor.walkRuin
open Go.ChangeShapes Go.WideShapes Go.ChangeAt Go.RowKit Go.Eng Go.Num
theorem fa0:(Rows.walkRuinRow.wf (OpenSpec.ofChange (OpenSpec.ofChange Rows.walkRuinSpec).bare))=true:=by kernel_rfl
theorem fa1:(laidOutB Tryz.pinned.checked.prog)=true:=by kernel_rfl
theorem fa2:(mapsRowed Tryz.pinned.checked.prog)=true:=by kernel_rfl
theorem fa3:(Tryz.f5.params.all (Tryz.pinned.checked.prog.readableRec ·))=true:=by kernel_rfl
theorem fa4:(namedTie Tryz.pinned.checked.prog Rows.walkRuinRow.named (OpenSpec.ofChange Rows.walkRuinSpec).bare.vars)=true:=by kernel_rfl
theorem fa5:(Rows.walkRuinRow.stops == [])=true:=by kernel_rfl
theorem fa6:(Tryz.pinned.checked.prog.stops == [])=true:=by kernel_rfl
theorem fa7:(Rows.walkRuinRow.knobs == [])=true:=by kernel_rfl
theorem fa8:(Tryz.pinned.checked.prog.stopKnobs == [])=true:=by kernel_rfl
theorem fa9:(Rows.walkRuinRow.inPlace == Tryz.pinned.checked.prog.inPlace 5)=true:=by kernel_rfl
theorem fa10:(Rows.walkRuinRow.unfollowed == Tryz.pinned.checked.prog.unfollowed 5)=true:=by kernel_rfl
theorem fa11:(Rows.walkRuinRow.recurses == Tryz.pinned.checked.prog.recurses 5)=true:=by kernel_rfl
theorem fa12:(Rows.walkRuinRow.named == Tryz.pinned.checked.prog.varsNamed 5)=true:=by kernel_rfl
theorem fa13:(Rows.walkRuinRow.maps == (Tryz.f5.params.toList ++ (OpenSpec.ofChange Rows.walkRuinSpec).bare.plain.varTypes Tryz.pinned.checked.prog).any (Tryz.pinned.checked.prog.mapsRec ·))=true:=by kernel_rfl
theorem fa14:(Rows.walkRuinRow.ifaces == (Tryz.f5.params.toList ++ (OpenSpec.ofChange Rows.walkRuinSpec).bare.plain.varTypes Tryz.pinned.checked.prog).any (Tryz.pinned.checked.prog.ifacesRec ·))=true:=by kernel_rfl
theorem fa15:(Rows.walkRuinRow.mapsOut == Tryz.pinned.checked.prog.mapsAmong Tryz.f5.resultTypes.toList)=true:=by kernel_rfl
theorem fa16:(Rows.walkRuinRow.loops == (Tryz.f5.params.toList ++ (OpenSpec.ofChange Rows.walkRuinSpec).bare.plain.varTypes Tryz.pinned.checked.prog).any (Tryz.pinned.checked.prog.loopsFrom ·))=true:=by kernel_rfl
theorem fa17:(Rows.walkRuinRow.wideKeys == (Tryz.f5.params.toList ++ (OpenSpec.ofChange Rows.walkRuinSpec).bare.plain.varTypes Tryz.pinned.checked.prog ++ Tryz.f5.resultTypes.toList).any (Tryz.pinned.checked.prog.wideKeysFrom ·))=true:=by kernel_rfl
theorem fa18:((OpenSpec.ofChange Rows.walkRuinSpec).bare.vars.all (Tryz.pinned.checked.prog.varReadable ·))=true:=by kernel_rfl
theorem fa19:(Tryz.f5.resultTypes.all (fun t=>Tryz.pinned.checked.prog.readableRec t && decide (t<Tryz.pinned.checked.prog.types.size)))=true:=by kernel_rfl
theorem fa20:(Rows.walkRuinRow.ifacesOut == Tryz.f5.resultTypes.toList.any (Tryz.pinned.checked.prog.ifacesRec ·))=true:=by kernel_rfl
theorem fa21:(Rows.walkRuinRow.loopsOut == Tryz.f5.resultTypes.toList.any (Tryz.pinned.checked.prog.loopsFrom ·))=true:=by kernel_rfl
theorem fa22:(Rows.walkRuinRow.plainKeys == Tryz.pinned.checked.prog.plainKeys)=true:=by kernel_rfl
theorem fa23:(Rows.walkRuinRow.shortTexts.isNone)=true:=by kernel_rfl
theorem fa24:(Tryz.pinned.checked.prog.stopsHeard)=true:=by kernel_rfl
theorem fa25:(Tryz.pinned.checked.prog.mayEnter)=true:=by kernel_rfl
theorem fa26:(Rows.walkRuinRow.lifted == Tryz.pinned.checked.prog.liftsFinal)=true:=by kernel_rfl
theorem fa27:(Tryz.pinned.checked.prog.make == some Rows.walkRuinRow.make)=true:=by kernel_rfl
theorem fa28:(Rows.walkRuinRow.kinds == (if Rows.walkRuinRow.domain.isEmpty then []else Tryz.f5.params.toList.map fun t=>match Tryz.pinned.checked.prog.underlying t with|some (.int k)=>some k|_=>none))=true:=by kernel_rfl
theorem fa29:(Rows.walkRuinRow.pinned == Rows.walkRuinRow.pinnedBy)=true:=by kernel_rfl
theorem fa30:(Rows.walkRuinRow.veiled == (Tryz.f5.params.toList ++ (OpenSpec.ofChange Rows.walkRuinSpec).bare.plain.varTypes Tryz.pinned.checked.prog ++ Tryz.f5.resultTypes.toList).any (Tryz.pinned.checked.prog.veiledRec ·))=true:=by kernel_rfl
theorem fa31:(Rows.walkRuinRow.veiledFits Tryz.pinned.checked.prog Tryz.f5.params.toList (Tryz.f5.params.toList ++ (OpenSpec.ofChange Rows.walkRuinSpec).bare.plain.varTypes Tryz.pinned.checked.prog ++ Tryz.f5.resultTypes.toList))=true:=by kernel_rfl
end Go.Proofs.YtepakfjilnpodaaGreatDoor.walkRuin
