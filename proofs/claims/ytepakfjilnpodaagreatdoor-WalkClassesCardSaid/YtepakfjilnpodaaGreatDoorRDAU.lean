/-
  'ParseQ' of the reference: the fraction of a text.
  Conditions: none.
-/
import Derived.Test.YtepakfjilnpodaaGreatDoorRDAT
namespace Go.Num
open Go.Eng Go.Shelf Go.RowKit Go.Sort Go.Proofs Go.Proofs.YtepakfjilnpodaaGreatDoor
def BoxL(w:World)(g:Nat)(xs:List Value):Prop:=g<w.heap.size∧∀j v,xs[j]? = some v→w.cell? ⟨g,j,none⟩=some v
end Go.Num
