/-
  The law SlideGrids: its second round, by the abstract machine; and what stands behind its loop.
  Conditions: the two tables of math/bits hold what they are laid with.
-/
import Derived.Test.YtjcmalmcijpnnaaDoorGridC
namespace Go.Eng
open Go.RowKit Go.Proofs Go.Proofs.YtjcmalmcijpnnaaDoor

theorem slots3_get {r c : Int} {t : Nat} {v : AV} (h : (slots3 r c).get t = some v) :
    (t = 0 ∧ v = .sc (.int .i64 r)) ∨ (t = 1 ∧ v = .sc (.int .i64 c)) ∨ (t = 4 ∧ v = .sc (.bool false)) ∨ (t = 5 ∧ v = .sc (.int .i64 1)) := by
  rcases Tr.get_set deep _ _ _ _ _ h with ⟨rfl, q⟩ | ⟨_, h⟩
  · cases q; simp
  · rcases Tr.get_set deep _ _ _ _ _ h with ⟨rfl, q⟩ | ⟨_, h⟩
    · cases q; simp
    · rcases Tr.get_set deep _ _ _ _ _ h with ⟨rfl, q⟩ | ⟨_, h⟩
      · cases q; simp
      · rcases Tr.get_set deep _ _ _ _ _ h with ⟨rfl, q⟩ | ⟨_, h⟩
        · cases q; simp
        · simp [Tr.get] at h

/-- The state after the first round: the second one, and the end. -/
theorem tail_rounds {w w1 : World} (hw : TabsIn w) (hb : Below w.heap.size w w1) {r c : Int} (hrun : tailRun r c = true) {a : CAct} (hd : a.defers = []) (hs : a.tmps.size = 84)
    (s0 : a.tmps.getD 0 undef = .int .i64 r) (s1 : a.tmps.getD 1 undef = .int .i64 c) (s4 : a.tmps.getD 4 undef = .bool false) (s5 : a.tmps.getD 5 undef = .int .i64 1)
    {Q : Exit → CAct → World → Prop} (hQ : ∀ c' w', end3.wpIn Fence.wide 0 Tryd.prog (fun e a2 w2 => e = .ret ∧ a2.defers = [] ∧ a2.tmps.getD 4 undef = .bool true ∧ Below w.heap.size w w2) c' w' → Q (.exit 0) c' w') :
    Code.roundsIn Fence.wide 0 Tryd.prog body3 Q 1000000 a w1 := by
  have hw1 : TabsIn w1 := hw.below hb
  obtain ⟨t0, t1, f0, f1, h0, h1⟩ := id hw1
  have hrep := tabs_rep (P := Tryd.prog) h0 h1
  have hact : ActRel (tabsMu db32 db64) { T := slots3 r c, nt := 84, ds := [] } a := by
    refine ⟨⟨hs, ?_⟩, hd⟩
    intro t v h
    rcases slots3_get h with ⟨rfl, rfl⟩ | ⟨rfl, rfl⟩ | ⟨rfl, rfl⟩ | ⟨rfl, rfl⟩
    · exact s0
    · exact s1
    · exact s4
    · exact s5
  have hK := (cbO_ok follows namesOK (told_ok hw1) 200).2.2
  unfold tailRun at hrun
  split at hrun
  · rename_i i a1 H1 hl
    split at hrun
    · rename_i a2 H2 he
      simp only [Bool.and_eq_true, beq_iff] at hrun
      obtain ⟨rfl, ht⟩ := hrun
      refine loopN_wp (ro := none) (ro' := none) (fun a H x a' H' hq μ w c q1 q2 q3 => hK _ _ _ _ _ _ _ _ hq μ w c none q1 q2 q3) _ _ _ _ _ _ hl _ _ _ rfl hrep hact _ ?_
      rintro e c' w' ⟨hx, μ1, g1, g2, g3⟩
      cases e <;> first | exact hx.elim | skip
      rename_i j
      have hj : 0 = j := hx
      subst hj
      refine hQ _ _ (wpIn_mono (F := Fence.wide) (hK _ _ _ _ _ _ _ _ he _ _ _ none rfl g3 g2) ?_)
      rintro e2 c2 w2 ⟨hx2, μ2, k1, k2, k3⟩
      cases e2 <;> first | exact hx2.elim | skip
      unfold isTrueAt at ht
      split at ht
      · rename_i h4
        have hds : a2.ds = [] := by simpa using ht
        refine ⟨rfl, ?_, k2.1.2 4 _ h4, hb.trans (k3.below.mono hb.size)⟩
        have := k2.2
        rw [hds] at this
        exact this
      · cases ht
    · cases hrun
  · cases hrun

theorem tails {r c : Int} (h1 : 1 ≤ r) (h2 : r ≤ 4) (h3 : 1 ≤ c) (h4 : c ≤ 4) : tailRun r c = true := by
  have h := List.all_eq_true.1 tailRuns (r, c)
  refine h ?_
  have hr : r = 1 ∨ r = 2 ∨ r = 3 ∨ r = 4 := by omega
  have hc : c = 1 ∨ c = 2 ∨ c = 3 ∨ c = 4 := by omega
  rcases hr with rfl | rfl | rfl | rfl <;> rcases hc with rfl | rfl | rfl | rfl <;> simp

theorem grids {r c : Int} (h : ¬ NoGrid r c) : gridRun r c = true := by
  have h0 := List.all_eq_true.1 gridRuns (r, c)
  refine h0 ?_
  unfold NoGrid at h
  have hr : r = 1 ∨ r = 2 ∨ r = 3 ∨ r = 4 ∨ r = 5 ∨ r = 6 ∨ r = 7 ∨ r = 8 ∨ r = 9 := by omega
  rcases hr with rfl | rfl | rfl | rfl | rfl | rfl | rfl | rfl | rfl <;> simp <;> omega
end Go.Eng
