/-
  What 'gcd', 'bottom' and 'lowest' answer: fractions in lowest terms.
  Conditions: the limbs are known; the denominator is not 0.
-/
import Derived.Test.YtoamcgjbelhnkaaGreatDoorMagJ
namespace Go.Num
open Go.RowKit Go.Proofs Go.Proofs.YtoamcgjbelhnkaaGreatDoor

theorem MagAt.unique {w : World} {v : Value} {m n : Nat} (h : MagAt w v m) (h' : MagAt w v n) : m = n := by
  obtain ⟨k, hk, hl⟩ := h
  obtain ⟨k', hk', hl'⟩ := h'
  obtain ⟨o, c, rfl, h1⟩ := hl.form
  obtain ⟨o', c', e, h2⟩ := hl'.form
  injection e with e1 e2 e3
  subst e1; subst e2
  refine limb_ext hk.1 hk'.1 fun i hi => ?_
  obtain ⟨a, rfl, ha, hc⟩ := h1 (by omega)
  obtain ⟨a', e, ha', hc'⟩ := h2 (by omega)
  injection e with e
  subst e
  have := (hc i hi).symm.trans (hc' i hi)
  injection this with this
  injection this with _ this
  omega
open Classical in
/-- The number of a magnitude, for a measure. -/
noncomputable def magNum (w : World) (v : Value) : Nat := if h : ∃ n, MagAt w v n then Classical.choose h else 0
theorem MagAt.num {w : World} {v : Value} {n : Nat} (h : MagAt w v n) : magNum w v = n := by
  unfold magNum
  rw [dif_pos ⟨n, h⟩]
  exact (Classical.choose_spec (⟨n, h⟩ : ∃ n, MagAt w v n)).unique h
theorem mag_len {w : World} {v : Value} {n : Nat} (h : MagAt w v n) : ∃ o k c, v = .slice o k c ∧ (k = 0 ↔ n = 0) ∧ k ≤ 1000000000 := by
  obtain ⟨k, hk, hl⟩ := h
  obtain ⟨o, c, rfl, h1⟩ := hl.form
  refine ⟨o, k, c, rfl, ⟨fun e => ?_, fun e => ?_⟩, hl.small⟩
  · subst e; exact hk.zero
  · subst e; exact hk.unique lenIs_zero

set_option maxRecDepth 100000 in
set_option maxHeartbeats 8000000 in
/-- **'gcd'.** -/
theorem gcd_calls (w : World) (va vb : Value) (x y L : Nat) (ha : MagAt w va x) (hb : MagAt w vb y) (hx : x < B ^ L) (hy : y < B ^ L) (hL : L ≤ 10000000) :
    CallsIn Fence.wide 0 Tryz.prog 63 #[va, vb] w fun e w' => ∃ v', e = .returned v' ∧ MagAt w' v' (Nat.gcd x y) ∧ Below w.heap.size w w' := by
  have HA := Hid.intro ha
  have HB := Hid.intro hb
  have HX := Hid.intro hx
  have HY := Hid.intro hy
  clear ha hb hx hy
  refine callsIn_of_wp Tryz.func63 rfl trivial ?_ rfl
  simp only [Tryz.ntmps63, List.size_toArray, List.length_cons, List.length_nil, Nat.reduceAdd, Nat.reduceSub, Array.replicate_succ, Array.replicate_zero, List.push_toArray, List.append_toArray, List.nil_append, List.cons_append]
  gi_wp2
  gi_loopw [0, 1] (fun va vb wr => ∃ a b : Nat, Hid (MagAt wr va a) ∧ Hid (MagAt wr vb b) ∧ Hid (a < B ^ L) ∧ Hid (b < B ^ L) ∧ Hid (Nat.gcd a b = Nat.gcd x y) ∧ Hid (Below w.heap.size w wr)) (fun _ vb wr => magNum wr vb)
  case atStart => exact ⟨x, y, HA.out, HB.out, HX.out, HY.out, Hid.intro rfl, Below.refl _ _⟩
  case round =>
    obtain ⟨a, b, HMA, HMB, HLA, HLB, HG, HBr⟩ := hrel
    clear HA HB
    obtain ⟨o, k, c, rfl, hk, hk9⟩ := mag_len HMB.out
    by_cases hb0 : b = 0
    · have hk0 : k = 0 := hk.2 hb0
      subst hk0
      subst hb0
      clear hk
      gi_wp2
      all_goals (first | go_returns | go_ret | go_end0)
      refine ⟨_, rfl, ?_, HBr.out⟩
      rw [← HG.out, Nat.gcd_zero_right]
      exact HMA.out
    · have hk0 : 0 < k := by
        rcases Nat.eq_zero_or_pos k with h | h
        · exact absurd (hk.1 h) hb0
        · exact h
      have HD := Hid.intro (div_calls wr _ _ a b L HMA.out HMB.out (by omega) HLA.out HLB.out hL)
      have HN := Hid.intro HMB.out.num
      clear hk
      gi_wp2_with (gi_at_call 108; refine HD.out.mono ?_; rintro e w6 ⟨vq, vr, rfl, _, hm6, hB6⟩; have HM6 := Hid.intro hm6; have HB6 := Hid.intro (HBr.out.trans (hB6.mono HBr.out.size)); have HMB6 := Hid.intro (HMB.out.below hB6); clear hm6 hB6)
      refine ⟨⟨b, a % b, HMB6.out, HM6.out, HLB.out, ?_, ?_, HB6.out⟩, ?_⟩
      · exact Hid.intro (Nat.lt_of_lt_of_le (Nat.mod_lt a (by omega)) (Nat.le_of_lt HLB.out))
      · exact Hid.intro (gcd_step.symm.trans HG.out)
      · rw [HM6.out.num, HN.out]
        exact Nat.mod_lt a (by omega)
end Go.Num
