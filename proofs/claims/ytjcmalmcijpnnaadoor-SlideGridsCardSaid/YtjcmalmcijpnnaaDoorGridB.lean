/-
  The law SlideGrids where there is no grid: its first round.
  Conditions: the two tables of math/bits hold what they are laid with.
-/
import Derived.Test.YtjcmalmcijpnnaaDoorGridD
namespace Go.Eng
open Go.RowKit Go.Proofs Go.Proofs.YtjcmalmcijpnnaaDoor

theorem wrap_prod {r c : Int} (h : NoGrid r c) : 1 ≤ r → 1 ≤ c → r ≤ 9 → c ≤ 9 → wrap64 (r * c) < 2 ∨ 9 < wrap64 (r * c) := by
  intro h1 h2 h3 h4
  rw [prod_small (.inr ⟨h1, h2, h3, h4⟩)]
  unfold NoGrid at h
  omega

theorem near4 (x : Int) : 1 ≤ wrap64 (1 + wrap64 ((IntKind.u64.wrap x).tmod 4)) ∧ wrap64 (1 + wrap64 ((IntKind.u64.wrap x).tmod 4)) ≤ 4 := by
  have h : 0 ≤ (IntKind.u64.wrap x).tmod 4 ∧ (IntKind.u64.wrap x).tmod 4 < 4 := by
    have h0 : 0 ≤ IntKind.u64.wrap x := by simp [IntKind.wrap]; exact Int.emod_nonneg _ (by decide)
    rw [Int.tmod_eq_emod_of_nonneg h0]
    omega
  unfold wrap64
  omega

theorem round_cut {F : Fence} {n m : Nat} {P : Program} {c : Code} {Q : Exit → CAct → World → Prop} {a : CAct} {w : World} (h : ∀ K : CAct → World → Prop, Hid (∀ a w, Code.roundsIn F n P c Q m a w → K a w) → c.wpIn F n P (Exit.then K fun _ _ _ => False) a w) : Code.roundsIn F n P c Q (m + 1) a w := by
  refine wpIn_mono (h _ fun _ _ h => h) ?_
  intro e a w q
  cases e <;> first | exact q | exact q.elim

set_option maxHeartbeats 4000000 in
theorem grids_none (w : World) (hw : TabsIn w) (r c : Int) (h : NoGrid r c) : CallsIn Fence.wide 0 Tryd.prog 3 #[.int .i64 r, .int .i64 c] w fun e w' => e = .returned (.bool true) ∧ Below w.heap.size w w' := by
  have HH := Hid.intro h
  have HW := Hid.intro hw
  clear h hw
  refine callsIn_of_wp Tryd.func3 rfl trivial ?_ rfl
  simp only [Tryd.ntmps3, List.size_toArray, List.length_cons, List.length_nil, Nat.reduceAdd, Nat.reduceSub, Array.replicate_succ, Array.replicate_zero, List.push_toArray, List.append_toArray, List.nil_append, List.cons_append]
  gi_wp2
  refine wpIn_loop_rounds (1000000 + 1) ?_
  refine round_cut fun KK HK => ?_
  rename_i K0 hK0
  have tail : ∀ (a : CAct) (w1 : World) (r' c' : Int), Below w.heap.size w w1 → a.defers = [] → a.tmps.size = 84 → a.tmps.getD 0 undef = .int .i64 r' → a.tmps.getD 1 undef = .int .i64 c' →
      a.tmps.getD 4 undef = .bool false → a.tmps.getD 5 undef = .int .i64 1 → (1 ≤ r' ∧ r' ≤ 4) → (1 ≤ c' ∧ c' ≤ 4) → KK a w1 := by
    intro a w1 r' c' hb hd hs s0 s1 s4 s5 q1 q2
    refine HK.out a w1 (tail_rounds HW.out hb (tails q1.1 q1.2 q2.1 q2.2) hd hs s0 s1 s4 s5 ?_)
    intro c2 w2 hend
    show K0 c2 w2
    refine hK0 _ _ (wpIn_mono (F := Fence.wide) hend ?_)
    rintro e a2 w3 ⟨rfl, hd2, h4, hb2⟩
    refine bodyPost_ret (results_tmp rfl _ _ _) hd2 ?_
    exact ⟨congrArg Ending.returned h4, hb2⟩
  have TT := Hid.intro tail
  clear tail HK hK0
  gi_wp2
  refine ⟨trivial, rfl, (grid_none w r c HH.out).mono ?_⟩
  rintro e w1 ⟨rfl, hb1⟩
  have HB1 := Hid.intro hb1
  clear hb1
  gi_wp2
  · refine ⟨trivial, rfl, (number_calls w1 _).mono ?_⟩
    rintro e w2 ⟨rfl, hb2⟩
    have HB2 := Hid.intro (HB1.out.trans (hb2.mono HB1.out.size))
    have hnum : decide (2 ≤ wrap64 (r * c) ∧ wrap64 (r * c) ≤ 9) = false := by
      have := wrap_prod HH.out (by assumption) (by assumption) (by assumption) (by assumption)
      simp; omega
    rw [hnum]
    clear hb2 hnum
    gi_wp2
    exact TT.out _ _ _ _ HB2.out rfl rfl rfl rfl rfl rfl (by omega) (by omega)
  all_goals (refine ⟨trivial, ?_⟩)
  all_goals gi_wp2
  all_goals exact TT.out _ _ _ _ HB1.out rfl rfl rfl rfl rfl rfl (by first | omega | exact near4 _) (by first | omega | exact near4 _)
/-- **The law's contract, whatever the numbers.** -/
theorem grids_calls {w : World} (hw : TabsIn w) (r c : Int) : Calls Tryd.prog 3 #[.int .i64 r, .int .i64 c] w fun e w' => e = .returned (.bool true) ∧ Below w.heap.size w w' := by
  refine (callsIn_wide (n := 0)).1 ?_
  by_cases h : NoGrid r c
  · exact grids_none w hw r c h
  · exact grid_some hw (grids h)
end Go.Eng
