/-
  Reaches and the reference's Hole, in terms of lists that are positions.
  Conditions: none.
-/
import Derived.Test.YtjcmalmcijpnnaaDoorSolS
import Derived.Test.YtjcmalmcijpnnaaDoorBckX
namespace Go.Eng
open Go.RowKit Go.Proofs Go.Proofs.YtjcmalmcijpnnaaDoor

section
variable {w : World} {N : Nat} {v : Value} {ps : List (Int × Int)} {vp vq : Value} {zp zq : Nat → Int}
theorem reach_is (hT : TabsIn w) (hN : 2 ≤ N ∧ N ≤ 9) (hv : PairsAt w v ps) (hl : ps.length ≤ 1000) (hb : IsBoard N ps) (hp : PosList w vp N zp) (hq : PosList w vq N zq) {b : Bool} (hd : b = true ↔ ∃ d, DistE (Mov (nats ps) N) zp d zq) :
    CallsIn Fence.wide 0 Tryd.prog 28 #[.int .i64 (N : Int), v, vp, vq] w fun e w' => e = .returned (.tuple #[.bool b, .int .i64 0]) ∧ Below w.heap.size w w' := by
  have h := reaches_calls w hT N hN v ps hv hl hb vp _ (hp.ints hN.2) (PosList.isPos hN hp.1) vq _ (hq.ints hN.2) (PosList.isPos hN hq.1)
  rw [posFun hp.1, posFun hq.1] at h
  refine h.mono ?_
  rintro e w' ⟨⟨hy, rfl⟩ | ⟨hno, rfl⟩, hB⟩
  · rw [hd.2 hy]; exact ⟨rfl, hB⟩
  · have : b = false := by
      cases b with
      | false => rfl
      | true => obtain ⟨d, h⟩ := hd.1 rfl; exact absurd h (hno d)
    rw [this]; exact ⟨rfl, hB⟩
theorem hole_is (hN : 2 ≤ N ∧ N ≤ 9) (hq : PosList w vq N zq) {h : Nat} (hz : PosZ zq N h) : CallsIn Fence.wide 0 Tryd.prog 30 #[vq] w fun e w' => e = .returned (.int .i64 (h : Int)) ∧ w = w' := by
  obtain ⟨hpp, a, cap, rfl, h2, h3, h4⟩ := hq
  exact refHole_calls w a N cap (by omega) zq h4 h hz.lt hz.zero hz.hole.first
end
end Go.Eng
