/-
  What 'IsWhole' of the program and 'Whole' of the reference answer.
  Conditions: the pairs are the edges of a board; their cells are known.
-/
import Derived.Test.YtjcmalmcijpnnaaDoorChkO
namespace Go.Eng
open Go.RowKit Go.Proofs Go.Proofs.YtjcmalmcijpnnaaDoor

/-- All places but one, as bits. -/
def setBut (N i : Nat) : Nat := 2 ^ N - 1 - 2 ^ i
theorem setBut_facts {N i : Nat} (hN : 2 ≤ N ∧ N ≤ 9) (hi : i < N) :
    bits .andNot .i64 (wrap64 (wrap64 (2 ^ N) - 1)) (wrap64 (2 ^ i)) = ((setBut N i : Nat) : Int) ∧ 0 < setBut N i ∧ setBut N i < 2 ^ N ∧ lowIx (setBut N i) = firstOf i ∧ (∀ j, j < 9 → (setBut N i).testBit j = (decide (j < N) && !decide (j = i))) := by
  have q : ((List.range 10).all fun N => (List.range 10).all fun i => decide (N < 2) || decide (N ≤ i) || (decide (bits .andNot .i64 (wrap64 (wrap64 (2 ^ N) - 1)) (wrap64 (2 ^ i)) = ((setBut N i : Nat) : Int)) && decide (0 < setBut N i) && decide (setBut N i < 2 ^ N) && (lowIx (setBut N i) == firstOf i) && (List.range 9).all fun j => (setBut N i).testBit j == (decide (j < N) && !decide (j = i)))) = true := by kernel_rfl
  have q1 := List.all_eq_true.1 (List.all_eq_true.1 q N (List.mem_range.2 (by omega))) i (List.mem_range.2 (by omega))
  have n1 : decide (N < 2) = false := by simp; omega
  have n2 : decide (N ≤ i) = false := by simp; omega
  rw [n1, n2] at q1
  simp only [Bool.false_or, Bool.and_eq_true, beq_iff_eq, decide_eq_true_eq, List.all_eq_true, List.mem_range] at q1
  exact ⟨q1.1.1.1.1, q1.1.1.1.2, q1.1.1.2, q1.1.2, q1.2⟩

/-- All places but one are connected, by bits and by pairs. -/
theorem linked_bits_but {N : Nat} (hN : 2 ≤ N ∧ N ≤ 9) {ps : List (Int × Int)} (hE : EdgesTo N ps ps.length) {i : Nat} (hi : i < N) :
    (∀ j, (setBut N i).testBit j = true → Rch (BitAdj (nxs (nats ps)) (setBut N i)) (lowIx (setBut N i)) j) ↔ Linked N ps i := by
  have hm := nats_mem hE
  have hb := nxs_bit (qs := nats ps) (fun q hq => (hm q hq).1)
  obtain ⟨_, h0, h1, h2, h3⟩ := setBut_facts hN hi
  have hlt : ∀ a b, Adj (nats ps) a b → a < N ∧ b < N := by
    rintro a b (h | h)
    · have := hm _ h; simp at this; omega
    · have := hm _ h; simp at this; omega
  have hbit : ∀ j, (setBut N i).testBit j = true ↔ j < N ∧ j ≠ i := by
    intro j
    rcases Nat.lt_or_ge j 9 with q | q
    · rw [h3 j q]; simp
    · have : (setBut N i).testBit j = false := Nat.testBit_lt_two_pow (Nat.lt_of_lt_of_le h1 (Nat.pow_le_pow_right (by decide) (by omega)))
      rw [this]
      constructor
      · intro h; cases h
      · intro h; omega
  have hA : ∀ a b, a ≠ i → BitAdj (nxs (nats ps)) (setBut N i) a b → AdjBut (nats ps) i a b := by
    rintro a b ha ⟨h4, h5⟩
    rw [hb] at h4
    have := (hbit b).1 h5
    exact ⟨h4, by omega, by omega⟩
  have hA' : ∀ a b, AdjBut (nats ps) i a b → BitAdj (nxs (nats ps)) (setBut N i) a b := by
    rintro a b ⟨h4, h5, h6⟩
    exact ⟨(hb a b).2 h4, (hbit b).2 ⟨(hlt a b h4).2, by omega⟩⟩
  have hs : firstOf i ≠ i := by unfold firstOf; split <;> omega
  rw [h2]
  unfold Linked
  constructor
  · intro h j hj hne
    have r := h j ((hbit j).2 ⟨hj, by omega⟩)
    have : ∀ j, Rch (BitAdj (nxs (nats ps)) (setBut N i)) (firstOf i) j → j ≠ i ∧ Rch (AdjBut (nats ps) i) (firstOf i) j := by
      intro j r
      induction r with
      | start => exact ⟨hs, .start⟩
      | step _ e ih => exact ⟨((hbit _).1 e.2).2, .step ih.2 (hA _ _ ih.1 e)⟩
    exact (this j r).2
  · intro h j hj
    have := (hbit j).1 hj
    exact (h j this.1 (by omega)).mono hA'

/-- A board is whole. -/
def WholeP (N : Nat) (ps : List (Int × Int)) : Prop := 2 < N ∧ ∀ i : Nat, i < N → Linked N ps i

set_option maxHeartbeats 4000000 in
/-- **'Whole' of the reference.** -/
theorem whole_calls (w : World) (N : Nat) (hN : 2 ≤ N ∧ N ≤ 9) (v : Value) (ps : List (Int × Int)) (hv : PairsAt w v ps) (hl : ps.length ≤ 1000) (hE : EdgesTo N ps ps.length) :
    CallsIn Fence.wide 0 Tryd.prog 38 #[.int .i64 (N : Int), v] w fun e w' => Says (WholeP N ps) e ∧ Below w.heap.size w w' := by
  have HJ : Hid (∀ w1, Below w.heap.size w w1 → ∀ i : Nat, i < N → CallsIn Fence.wide 0 Tryd.prog 62 #[.int .i64 (N : Int), v, .int .i64 (i : Int)] w1 fun e w' => Says (Linked N ps i) e ∧ Below w1.heap.size w1 w') :=
    fun w1 hb i hi => joined_calls w1 N hN v ps (hv.below hb) hl hE i
  clear hv hl hE
  refine callsIn_of_wp Tryd.func38 rfl trivial ?_ rfl
  simp only [Tryd.ntmps38, List.size_toArray, List.length_cons, List.length_nil, Nat.reduceAdd, Nat.reduceSub, Array.replicate_succ, Array.replicate_zero, List.push_toArray, List.append_toArray, List.nil_append, List.cons_append]
  gi_wp2
  gi_loopw [5] (fun i wr => ∃ k : Nat, k ≤ N ∧ i = .int .i64 (k : Int) ∧ Hid (Below w.heap.size w wr) ∧ Hid (∀ i : Nat, i < k → Linked N ps i)) (fun i _ => N - (intOf i).toNat)
  case atStart => exact ⟨0, by omega, rfl, Below.refl _ _, fun i h => by omega⟩
  case round =>
    obtain ⟨k, hk, rfl, HB, HI⟩ := hrel
    by_cases hkN : k < N
    · have HC := Hid.intro (HJ.out wr HB.out k hkN)
      gi_wp2_with (gi_at_call 62; refine HC.out.mono ?_; rintro e w2 ⟨⟨b, hb, rfl⟩, hB2⟩; have HB2 := Hid.intro hB2; have HQ := Hid.intro hb; clear hB2 hb; cases b)
      · all_goals (first | go_returns | go_ret | go_end0)
        exact ⟨Says.no (fun q => by have := HQ.out.2 (q.2 k hkN); simp at this) rfl, HB.out.trans (HB2.out.mono HB.out.size)⟩
      · refine ⟨⟨k + 1, by omega, by go_num, HB.out.trans (HB2.out.mono HB.out.size), fun i hi => ?_⟩, by simp [intOf]; omega⟩
        rcases Nat.lt_or_ge i k with q | q
        · exact HI.out i q
        · have : i = k := by omega
          subst this
          exact HQ.out.1 trivial
    · have hkn : k = N := by omega
      subst hkn
      gi_wp2
      all_goals (first | go_returns | go_ret | go_end0)
      refine ⟨⟨decide (3 ≤ (k : Int)), ?_, rfl⟩, HB.out⟩
      rw [decide_eq_true_eq]
      exact ⟨fun q => ⟨by omega, HI.out⟩, fun q => by have := q.1; omega⟩

/-- A call has answered whether p, and no error. -/
def SaysOK (p : Prop) (e : Ending) : Prop := ∃ b : Bool, (b = true ↔ p) ∧ e = .returned (.tuple #[.bool b, .int .i64 0])

set_option maxHeartbeats 8000000 in
/-- **'IsWhole' of the program.** -/
theorem isWhole_calls (w : World) (N : Nat) (hN : 2 ≤ N ∧ N ≤ 9) (v : Value) (ps : List (Int × Int)) (hv : PairsAt w v ps) (hl : ps.length ≤ 1000) (hb : IsBoard N ps) :
    CallsIn Fence.wide 0 Tryd.prog 35 #[.int .i64 (N : Int), v] w fun e w' => SaysOK (WholeP N ps) e ∧ Below w.heap.size w w' := by
  have HC := Hid.intro (open_calls w N v ps hv hl)
  have HE := Hid.intro hb.1
  have HB0 : Hid (BoardErr N ps 0) := .inr (.inr ⟨by omega, by simpa using hb, rfl⟩)
  clear hv hl hb
  refine callsIn_of_wp Tryd.func35 rfl trivial ?_ rfl
  simp only [Tryd.ntmps35, List.size_toArray, List.length_cons, List.length_nil, Nat.reduceAdd, Nat.reduceSub, Array.replicate_succ, Array.replicate_zero, List.push_toArray, List.append_toArray, List.nil_append, List.cons_append]
  gi_wp2_with (gi_at_call 49; refine HC.out.mono ?_; rintro e w1 ⟨hB, hpost⟩; have HB := Hid.intro hB; clear hB; rcases hpost with ⟨c, hc, herr, rfl⟩ | ⟨herr, g, rfl, hg, hA⟩; (exfalso; exact hc (herr.unique HB0.out)))
  have hba : BoardAt w1 g N (nxs (nats ps)) := by simpa using hA.board
  have hm := nats_mem HE.out
  have HCC : Hid (∀ i, i < N → CallsIn Fence.wide 0 Tryd.prog 61 #[.pointer (some ⟨g, 0, none⟩), .int .i64 (bits .andNot .i64 (wrap64 (wrap64 (2 ^ N) - 1)) (wrap64 (2 ^ i)))] w1 fun e w' => Says (Linked N ps i) e ∧ w1 = w') := by
    intro i hi
    obtain ⟨f1, f2, f3, f4, f5⟩ := setBut_facts hN hi
    refine (connected_calls' w1 g N hN _ hba (nxs_lt (fun q hq => by have := hm q hq; omega)) (setBut N i) ⟨f2, f3⟩ _ f1).mono ?_
    rintro e w' ⟨⟨b, h, rfl⟩, rfl⟩
    exact ⟨⟨b, by rw [h]; exact linked_bits_but hN HE.out hi, rfl⟩, rfl⟩
  clear hba hm hA hg herr
  gi_loop [8, 22] (fun b i => ∃ (k : Nat) (B : Bool), k ≤ N ∧ i = .int .i64 (k : Int) ∧ b = .bool B ∧ Hid (B = true ↔ 2 < N ∧ ∀ i : Nat, i < k → Linked N ps i)) (fun _ i => N - (intOf i).toNat)
  case atStart => exact ⟨0, decide (2 < (N : Int)), by omega, rfl, rfl, by unfold Hid; simp; omega⟩
  case round =>
    obtain ⟨k, B, hk, rfl, rfl, HI⟩ := hrel
    by_cases hkN : k < N
    · have HC := Hid.intro (HCC.out k hkN)
      cases B with
      | false =>
        gi_wp2
        refine ⟨⟨k + 1, false, by omega, by go_num, rfl, ?_⟩, by simp [intOf]; omega⟩
        have h := HI.out
        show false = true ↔ _
        exact ⟨fun q => (by cases q), fun q => (by have := h.2 ⟨q.1, fun i hi => q.2 i (by omega)⟩; simp at this)⟩
      | true =>
        gi_wp2_with (gi_at_call 61; refine HC.out.mono ?_; rintro e w2 ⟨⟨b, hb, rfl⟩, rfl⟩; have HQ := Hid.intro hb; clear hb)
        refine ⟨⟨k + 1, _, by omega, by go_num, rfl, ?_⟩, by simp [intOf]; omega⟩
        have h := HI.out
        show _ ↔ _
        rw [HQ.out]
        constructor
        · intro q
          have h' := h.1 trivial
          refine ⟨h'.1, fun i hi => ?_⟩
          rcases Nat.lt_or_ge i k with r | r
          · exact h'.2 i r
          · have : i = k := by omega
            subst this; exact q
        · intro q; exact q.2 k (by omega)
    · have hkn : k = N := by omega
      subst hkn
      gi_wp2
      all_goals (first | go_returns | go_ret | go_end0)
      exact ⟨⟨B, HI.out, rfl⟩, HB.out⟩
end Go.Eng
