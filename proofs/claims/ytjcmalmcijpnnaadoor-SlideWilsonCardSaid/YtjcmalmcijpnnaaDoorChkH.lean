/-
  What 'Board' of the reference answers.
  Conditions: the pairs' cells are known.
-/
import Derived.Test.YtjcmalmcijpnnaaDoorChkF
import Derived.RegionIn
namespace Go.Eng
open Go.RowKit Go.Proofs Go.Proofs.YtjcmalmcijpnnaaDoor

/-- The cell behind a cell of a block's own. -/
theorem add_add_one (a : Addr) (i : Nat) : (⟨(a.add i).block, (a.add i).off + 1, none⟩ : Addr) = a.add (i + 1) := by
  unfold Addr.add
  split <;> simp_all <;> omega

/-- Edge i is one, and stands behind the one before it. -/
def EdgeOK (n : Int) (ps : List (Int × Int)) (i : Nat) : Prop :=
  (0 ≤ (ps.getD i (0, 0)).1 ∧ (ps.getD i (0, 0)).1 < (ps.getD i (0, 0)).2 ∧ (ps.getD i (0, 0)).2 < n) ∧
    (0 < i → (ps.getD (i - 1) (0, 0)).1 < (ps.getD i (0, 0)).1 ∨ (ps.getD (i - 1) (0, 0)).1 = (ps.getD i (0, 0)).1 ∧ (ps.getD (i - 1) (0, 0)).2 < (ps.getD i (0, 0)).2)
def EdgesTo (n : Int) (ps : List (Int × Int)) (k : Nat) : Prop := ∀ i, i < k → EdgeOK n ps i
theorem EdgesTo.next {n : Int} {ps : List (Int × Int)} {k : Nat} (h : EdgesTo n ps k) (hk : EdgeOK n ps k) : EdgesTo n ps (k + 1) := by
  intro i hi
  rcases Nat.lt_or_ge i k with q | q
  · exact h i q
  · have : i = k := by omega
    subst this; exact hk

set_option maxRecDepth 10000 in
set_option maxHeartbeats 4000000 in
theorem board_walk {J : Prop} (w : World) (n : Int) (a : Addr) (cap : Nat) (ps : List (Int × Int)) (hl : ps.length ≤ 1000) (ha : a.block < w.heap.size) (hJ : EdgesTo n ps ps.length → ∀ w1, Below w.heap.size w w1 → CallsIn Fence.wide 0 Tryd.prog 62 #[.int .i64 n, .slice (some a) ps.length cap, .int .i64 (-1)] w1 fun e w' => Says J e ∧ Below w1.heap.size w1 w') (hc : ∀ i, i < 2 * ps.length → w.cell? (a.add i) = some (.int .i64 ((flat ps).getD i 0))) :
    CallsIn Fence.wide 0 Tryd.prog 48 #[.int .i64 n, .slice (some a) ps.length cap] w fun e w' => Says (EdgesTo n ps ps.length ∧ J) e ∧ Below w.heap.size w w' := by
  have HC := Hid.intro hc
  have HJ := Hid.intro hJ
  clear hc hJ
  refine callsIn_of_wp Tryd.func48 rfl trivial ?_ rfl
  simp only [Tryd.ntmps48, List.size_toArray, List.length_cons, List.length_nil, Nat.reduceAdd, Nat.reduceSub, Array.replicate_succ, Array.replicate_zero, List.push_toArray, List.append_toArray, List.nil_append, List.cons_append]
  gi_wp2
  gi_loopw [5] (fun i wr => ∃ (k : Nat), k ≤ ps.length ∧ i = .int .i64 k ∧ Hid (Below w.heap.size w wr) ∧ Hid (EdgesTo n ps k)) (fun i _ => ps.length - (intOf i).toNat)
  case atStart => exact ⟨0, by omega, rfl, Below.refl _ _, fun _ h => by omega⟩
  case round =>
    obtain ⟨k, hk, rfl, HB, HE⟩ := hrel
    gi_wp2
    · have hk' : k < ps.length := by assumption
      have g0 : wr.cell? (a.add (k * 2)) = some (.int .i64 (ps.getD k (0, 0)).1) := by
        rw [HB.out.cell (by rw [add_block]; exact ha), HC.out _ (by omega), Nat.mul_comm, flat_fst]
      have g1 : wr.cell? ⟨(a.add (k * 2)).block, (a.add (k * 2)).off + 1, none⟩ = some (.int .i64 (ps.getD k (0, 0)).2) := by
        rw [add_add_one, HB.out.cell (by rw [add_block]; exact ha), HC.out _ (by omega), Nat.mul_comm, flat_snd]
      have gm : 0 < k → wr.cell? (a.add ((k - 1) * 2)) = some (.int .i64 (ps.getD (k - 1) (0, 0)).1) := by
        intro _
        rw [HB.out.cell (by rw [add_block]; exact ha), HC.out _ (by omega), Nat.mul_comm, flat_fst]
      have gn : 0 < k → wr.cell? ⟨(a.add ((k - 1) * 2)).block, (a.add ((k - 1) * 2)).off + 1, none⟩ = some (.int .i64 (ps.getD (k - 1) (0, 0)).2) := by
        intro _
        rw [add_add_one, HB.out.cell (by rw [add_block]; exact ha), HC.out _ (by omega), Nat.mul_comm, flat_snd]
      gi_region
      rcases Nat.eq_zero_or_pos k with k0 | k0
      · subst k0
        gi_wp2
        case roundEnd =>
          refine ⟨⟨1, by omega, by simp, HB.out.drew, HE.out.next ?_⟩, by simp [intOf]; omega⟩
          refine ⟨?_, fun q => by omega⟩
          have e : ps.getD 0 (0, 0) = ps[0] := by simp [hk']
          rw [e]; omega
        all_goals (first | go_returns | go_ret | go_end0)
        all_goals
          refine ⟨Says.no ?_ rfl, HB.out.drew⟩
          rintro ⟨q, _⟩
          have q0 := (q 0 hk').1
          have e : ps.getD 0 (0, 0) = ps[0] := by simp [hk']
          rw [e] at q0
          omega
      · obtain ⟨j, rfl⟩ : ∃ j, k = j + 1 := ⟨k - 1, by omega⟩
        have gm' : wr.cell? (a.add (j * 2)) = some (.int .i64 (ps.getD j (0, 0)).1) := gm k0
        have gn' : wr.cell? ⟨(a.add (j * 2)).block, (a.add (j * 2)).off + 1, none⟩ = some (.int .i64 (ps.getD j (0, 0)).2) := gn k0
        have hj : ((j + 1 : Nat) : Int) = (j : Int) + 1 := by omega
        clear gm gn
        have e : ps.getD (j + 1) (0, 0) = ps[j + 1] := by simp [hk']
        have e' : ps.getD j (0, 0) = ps[j] := by rw [List.getD_eq_getElem?_getD, List.getElem?_eq_getElem (by omega)]; rfl
        have E1 := Hid.intro e
        have E2 := Hid.intro e'
        clear e e'
        gi_wp2
        case roundEnd =>
          refine ⟨⟨j + 2, by omega, congrArg (Value.int .i64) (by omega), HB.out.drew, HE.out.next ?_⟩, by simp [intOf]; omega⟩
          have e1 := E1.out
          have e2 := E2.out
          refine ⟨?_, fun _ => ?_⟩
          · rw [e1]; omega
          · show (ps.getD j (0, 0)).1 < _ ∨ _
            rw [Nat.add_sub_cancel, e1, e2]; omega
        case roundEnd =>
          refine ⟨⟨j + 2, by omega, congrArg (Value.int .i64) (by omega), HB.out.drew, HE.out.next ?_⟩, by simp [intOf]; omega⟩
          have e1 := E1.out
          have e2 := E2.out
          refine ⟨?_, fun _ => ?_⟩
          · rw [e1]; omega
          · show (ps.getD j (0, 0)).1 < _ ∨ _
            rw [Nat.add_sub_cancel, e1, e2]; omega
        all_goals (first | go_returns | go_ret | go_end0)
        all_goals
          refine ⟨Says.no ?_ rfl, HB.out.drew⟩
          rintro ⟨q, _⟩
          have q0 := q (j + 1) hk'
          unfold EdgeOK at q0
          rw [Nat.add_sub_cancel, E1.out, E2.out] at q0
          have q1 := q0.2 (Nat.succ_pos j)
          have q2 := q0.1
          clear q0
          have e3 : (ps[j]?.getD (0, 0)).1 = ps[j].1 := by rw [List.getElem?_eq_getElem (by omega)]; rfl
          omega
    · have hkk : k = ps.length := by omega
      subst hkk
      refine ⟨trivial, rfl, (HJ.out HE.out _ HB.out).mono ?_⟩
      rintro e w2 ⟨⟨b, hb, rfl⟩, hB2⟩
      have HB2 := Hid.intro (HB.out.trans (hB2.mono HB.out.size))
      have HI := Hid.intro hb
      clear hB2 hb
      gi_wp2
      all_goals (first | go_returns | go_ret | go_end0)
      exact ⟨⟨b, by rw [HI.out]; exact ⟨fun q => ⟨HE.out, q⟩, fun q => q.2⟩, rfl⟩, HB2.out⟩
end Go.Eng
