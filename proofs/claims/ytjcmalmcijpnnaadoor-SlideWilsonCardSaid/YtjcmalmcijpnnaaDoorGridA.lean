/-
  What 'Number' of the reference answers, whatever the number; and what 'Grid' answers where there is no grid.
  Conditions: none.
-/
import Derived.Test.YtjcmalmcijpnnaaDoorEngW
import Derived.BigFrameIn
import Derived.Handy
namespace Go.Eng
open Go.RowKit Go.Proofs Go.Proofs.YtjcmalmcijpnnaaDoor

theorem number_calls (w : World) (x : Int) : CallsIn Fence.wide 0 Tryd.prog 13 #[.int .i64 x] w fun e w' => e = .returned (.bool (decide (2 ≤ x ∧ x ≤ 9))) ∧ Below w.heap.size w w' := by
  refine callsIn_of_wp Tryd.func13 rfl trivial ?_ rfl
  simp only [Tryd.ntmps13, List.size_toArray, List.length_cons, List.length_nil, Nat.reduceAdd, Nat.reduceSub, Array.replicate_succ, Array.replicate_zero, List.push_toArray, List.append_toArray, List.nil_append, List.cons_append]
  gi_wp2
  all_goals first | go_end0 | go_ret
  · rename_i h
    exact ⟨by simp [h], Below.refl _ _⟩
  · rename_i h
    exact ⟨by have : ¬ 2 ≤ x := by omega
              simp [this], Below.refl _ _⟩

theorem Hid.intro {p : Prop} (h : p) : Hid p := h

theorem cut2 {F : Fence} {n : Nat} {P : Program} {Q : Exit → CAct → World → Prop} {s : CAct} {w : World} {a b c : Code} (h : ∀ z : Code, (a.seq (b.seq z)).wpIn F n P Q s w) : (a.seq (b.seq c)).wpIn F n P Q s w := h c

/-- There is no grid. -/
def NoGrid (r c : Int) : Prop := r < 1 ∨ c < 1 ∨ 9 < r ∨ 9 < c ∨ r * c < 2 ∨ 9 < r * c

theorem prod_small {r c : Int} (h : ¬ NoGrid r c ∨ (1 ≤ r ∧ 1 ≤ c ∧ r ≤ 9 ∧ c ≤ 9)) : wrap64 (r * c) = r * c := by
  have h' : 1 ≤ r ∧ 1 ≤ c ∧ r ≤ 9 ∧ c ≤ 9 := by
    rcases h with h | h
    · unfold NoGrid at h; omega
    · exact h
  obtain ⟨h1, h2, h3, h4⟩ := h'
  have q1 : 0 ≤ r * c := Int.mul_nonneg (by omega) (by omega)
  have q2 : r * c ≤ 9 * 9 := Int.mul_le_mul h3 h4 (by omega) (by omega)
  unfold wrap64; omega

set_option maxHeartbeats 4000000 in
theorem grid_none (w : World) (r c : Int) (h : NoGrid r c) : CallsIn Fence.wide 0 Tryd.prog 12 #[.int .i64 r, .int .i64 c] w fun e w' => e = .returned (.tuple #[.int .i64 0, .slice none 0 0, .int .i64 1]) ∧ Below w.heap.size w w' := by
  have HH := Hid.intro h
  clear h
  refine callsIn_of_wp Tryd.func12 rfl trivial ?_ rfl
  simp only [Tryd.ntmps12, List.size_toArray, List.length_cons, List.length_nil, Nat.reduceAdd, Nat.reduceSub, Array.replicate_succ, Array.replicate_zero, List.push_toArray, List.append_toArray, List.nil_append, List.cons_append]
  refine cut2 fun z => ?_
  gi_wp2
  all_goals first
    | (first | go_returns | go_ret | go_end0); exact ⟨rfl, Below.refl _ _⟩
    | (exfalso
       have h1 := prod_small (r := r) (c := c) (.inr (by omega))
       have h2 := HH.out
       unfold NoGrid at h2
       omega)
end Go.Eng
