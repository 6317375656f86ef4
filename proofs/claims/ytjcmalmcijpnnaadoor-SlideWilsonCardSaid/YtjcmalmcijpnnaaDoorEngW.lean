/-
  What a program must do whatever the input is ('awake'), run once; and what it gives to every law of this layer.
  Conditions: the two tables of math/bits hold what they are laid with.
-/
import Derived.Test.YtjcmalmcijpnnaaDoorEngY
import Derived.Test.YtjcmalmcijpnnaaDoorRows
import Derived.Test.YtjcmalmcijpnnaaDoorTie
import Derived.WalkKit
import Derived.Lib.LaidTab
import Derived.KernelRfl
namespace Go.Eng
open Go.RowKit Go.Proofs Go.Proofs.YtjcmalmcijpnnaaDoor
set_option maxRecDepth 100000

def db64 : List Int := [0, 1, 56, 2, 57, 49, 28, 3, 61, 58, 42, 50, 38, 29, 17, 4, 62, 47, 59, 36, 45, 43, 51, 22, 53, 39, 33, 30, 24, 18, 12, 5, 63, 55, 48, 27, 60, 41, 37, 16, 46, 35, 44, 21, 52, 32, 23, 11, 54, 26, 40, 15, 34, 20, 31, 10, 25, 14, 19, 9, 13, 8, 7, 6]
def db32 : List Int := [0, 1, 28, 2, 29, 14, 24, 3, 30, 22, 20, 15, 25, 17, 4, 8, 31, 27, 13, 23, 21, 19, 16, 7, 26, 12, 18, 6, 11, 5, 10, 9]

theorem follows : Tryd.prog.follows .mixedOrders = true := by kernel_rfl
theorem namesOK : NamesOK Tryd.prog := namesOK_of (by kernel_rfl)

/-- A call has answered true, and left what was there alone. -/
def AwakeRun (r : Option (AV × AH)) : Bool := match r with | some (.sc (.bool true), _) => true | _ => false
theorem awakeRun_eq {r : Option (AV × AH)} (h : AwakeRun r = true) : ∃ H', r = some (.sc (.bool true), H') := by
  unfold AwakeRun at h
  split at h
  · exact ⟨_, rfl⟩
  · cases h

theorem awake_run : AwakeRun ((cb Tryd.prog [0, 1] 3000).call 16 .nil (tabs db32 db64)) = true := by kernel_rfl

/-- The world holds the two tables. -/
def TabsIn (w : World) : Prop := ∃ t0 t1 f0 f1, w.heap[0]? = some (.cells (db32.map (Value.int .u8)).toArray t0 f0) ∧ w.heap[1]? = some (.cells (db64.map (Value.int .u8)).toArray t1 f1)
theorem TabsIn.below {w w' : World} (h : TabsIn w) (hb : Below w.heap.size w w') : TabsIn w' := by
  obtain ⟨t0, t1, f0, f1, h0, h1⟩ := h
  refine ⟨t0, t1, f0, f1, ?_, ?_⟩
  · rw [hb.block 0 (Array.getElem?_eq_some_iff.1 h0).1]; exact h0
  · rw [hb.block 1 (Array.getElem?_eq_some_iff.1 h1).1]; exact h1

theorem awake_calls {w : World} (h : TabsIn w) : Calls Tryd.prog 16 #[] w fun e w' => e = .returned (.bool true) ∧ Below w.heap.size w w' := by
  obtain ⟨t0, t1, f0, f1, h0, h1⟩ := h
  obtain ⟨H', hr⟩ := awakeRun_eq awake_run
  refine (calls_of_run follows namesOK hr (tabs_rep h0 h1) (by rfl)).mono ?_
  rintro e w' ⟨x, μ', rfl, _, hx, hrep⟩
  have hx' : x = .bool true := hx
  exact ⟨by rw [hx'], hrep.below⟩

end Go.Eng
