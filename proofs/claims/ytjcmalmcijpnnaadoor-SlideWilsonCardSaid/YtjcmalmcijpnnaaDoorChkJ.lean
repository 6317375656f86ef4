/-
  What cmp.Compare and slices.Compare answer, of two lists of two numbers.
  Conditions: the lists' cells are known.
-/
import Derived.Test.YtjcmalmcijpnnaaDoorChkI
namespace Go.Eng
open Go.RowKit Go.Proofs Go.Proofs.YtjcmalmcijpnnaaDoor

theorem isNaN_calls (w : World) (x : Int) : CallsIn Fence.wide 0 Tryd.prog 73 #[.int .i64 x] w fun e w' => e = .returned (.bool false) ∧ w = w' := by
  refine callsIn_of_wp Tryd.func73 rfl trivial ?_ rfl
  simp only [Tryd.ntmps73, List.size_toArray, List.length_cons, List.length_nil, Nat.reduceAdd, Nat.reduceSub, Array.replicate_succ, Array.replicate_zero, List.push_toArray, List.append_toArray, List.nil_append, List.cons_append]
  gi_wp2
  all_goals (first | go_returns | go_ret | go_end0)
  all_goals exact ⟨by simp, rfl⟩

theorem ret_i {a b : Int} (h : a = b) : Ending.returned (.int .i64 a) = .returned (.int .i64 b) := by rw [h]
/-- The sign of a difference. -/
def cmpI (x y : Int) : Int := if x < y then -1 else if y < x then 1 else 0

set_option maxHeartbeats 4000000 in
theorem compare_calls (w : World) (x y : Int) : CallsIn Fence.wide 0 Tryd.prog 71 #[.int .i64 x, .int .i64 y] w fun e w' => e = .returned (.int .i64 (cmpI x y)) ∧ w = w' := by
  refine callsIn_of_wp Tryd.func71 rfl trivial ?_ rfl
  simp only [Tryd.ntmps71, List.size_toArray, List.length_cons, List.length_nil, Nat.reduceAdd, Nat.reduceSub, Array.replicate_succ, Array.replicate_zero, List.push_toArray, List.append_toArray, List.nil_append, List.cons_append]
  gi_wp2_with (refine ⟨trivial, rfl, (isNaN_calls _ _).mono ?_⟩; rintro e w1 ⟨rfl, rfl⟩)
  all_goals (first | go_returns | go_ret | go_end0)
  all_goals
    refine ⟨?_, rfl⟩
    unfold cmpI
    repeat' split
    all_goals first | rfl | (exfalso; omega)

def cmp2 (x0 x1 y0 y1 : Int) : Int := if cmpI x0 y0 = 0 then cmpI x1 y1 else cmpI x0 y0

set_option maxHeartbeats 4000000 in
theorem compare2_calls (w : World) (a b : Addr) (x0 x1 y0 y1 : Int) (cap cap' : Nat) (h0 : w.cell? a = some (.int .i64 x0)) (h1 : w.cell? ⟨a.block, a.off + 1, none⟩ = some (.int .i64 x1)) (g0 : w.cell? b = some (.int .i64 y0)) (g1 : w.cell? ⟨b.block, b.off + 1, none⟩ = some (.int .i64 y1)) :
    CallsIn Fence.wide 0 Tryd.prog 64 #[.slice (some a) 2 cap, .slice (some b) 2 cap'] w fun e w' => e = .returned (.int .i64 (cmp2 x0 x1 y0 y1)) ∧ w = w' := by
  refine callsIn_of_wp Tryd.func64 rfl trivial ?_ rfl
  simp only [Tryd.ntmps64, List.size_toArray, List.length_cons, List.length_nil, Nat.reduceAdd, Nat.reduceSub, Array.replicate_succ, Array.replicate_zero, List.push_toArray, List.append_toArray, List.nil_append, List.cons_append]
  gi_wp2
  refine wpIn_loop_rounds 3 ?_
  rw [roundsIn_succ]
  gi_wp2_with (refine ⟨trivial, rfl, (compare_calls _ _ _).mono ?_⟩; rintro e w1 ⟨rfl, rfl⟩)
  · all_goals (first | go_returns | go_ret | go_end0)
    have h : (cmpI x0 y0 != 0) = true := by assumption
    exact ⟨ret_i (by unfold cmp2; rw [if_neg (by simpa using h)]), rfl⟩
  · have h : (cmpI x0 y0 != 0) = false := by assumption
    rw [roundsIn_succ]
    gi_wp2_with (refine ⟨trivial, rfl, (compare_calls _ _ _).mono ?_⟩; rintro e w1 ⟨rfl, rfl⟩)
    · all_goals (first | go_returns | go_ret | go_end0)
      exact ⟨ret_i (by unfold cmp2; rw [if_pos (by simpa using h)]), rfl⟩
    · rw [roundsIn_succ]
      gi_wp2
      all_goals (first | go_returns | go_ret | go_end0)
      have h2 : (cmpI x1 y1 != 0) = false := by assumption
      refine ⟨ret_i (b := cmp2 x0 x1 y0 y1) ?_, rfl⟩
      unfold cmp2
      rw [if_pos (by simpa using h)]
      simp at h2
      rw [h2]
end Go.Eng
