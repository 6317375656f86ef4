/-
  'Parse' of the reference: the integer of a text.
  Conditions: the size is bounded.
-/
import Derived.Test.YtepakfjilnpodaaGreatDoorRDAS
namespace Go.Num
open Go.Eng Go.Shelf Go.RowKit Go.Sort Go.Proofs Go.Proofs.YtepakfjilnpodaaGreatDoor
end Go.Num
