/-
  Signs, opposites, whole fractions and comparison.
  Conditions: the parts are known.
-/
import Derived.Test.YtoamcgjbelhnkaaGreatDoorRatC
namespace Go.Num
open Go.RowKit Go.Proofs Go.Proofs.YtoamcgjbelhnkaaGreatDoor Go.Eng

/-- The sign. -/
def sgnR (q : Rat) : Int := if q.num < 0 then -1 else if q.num = 0 then 0 else 1

set_option maxRecDepth 100000 in
set_option maxHeartbeats 8000000 in
/-- **'Sign'.** -/
theorem sign_calls (w : World) (v : Value) (q : Rat) (h : RatAt w v q) :
    CallsIn Fence.wide 0 Tryz.prog 17 #[v] w fun e w' => e = .returned (.int .i64 (sgnR q)) ∧ Below w.heap.size w w' := by
  obtain ⟨vn, vd, rfl, hn, hd⟩ := h
  obtain ⟨o, k, c, rfl, hk, hk9⟩ := mag_len hn
  obtain ⟨o2, k2, c2, rfl, _, _⟩ := mag_len hd
  have HK := Hid.intro hk
  clear hn hd hk
  refine callsIn_of_wp Tryz.func17 rfl trivial ?_ rfl
  simp only [Tryz.ntmps17, List.size_toArray, List.length_cons, List.length_nil, Nat.reduceAdd, Nat.reduceSub, Array.replicate_succ, Array.replicate_zero, List.push_toArray, List.append_toArray, List.nil_append, List.cons_append]
  by_cases h0 : q.num < 0
  · have hs : Hid (sgnR q = -1) := if_pos h0
    have hd : decide (q.num < 0) = true := decide_eq_true h0
    rw [hd]
    clear hd h0
    gi_wp2
    all_goals (first | go_returns | go_ret | go_end0)
    exact ⟨by rw [hs.out]; rfl, alloc_below _ _⟩
  · have hd : decide (q.num < 0) = false := decide_eq_false h0
    rw [hd]
    by_cases h1 : q.num = 0
    · have hs : Hid (sgnR q = 0) := Hid.intro (by unfold sgnR; rw [if_neg h0, if_pos h1])
      have hk0 : k = 0 := HK.out.2 (by rw [h1]; rfl)
      subst hk0
      clear hd h0 h1
      gi_wp2
      all_goals (first | go_returns | go_ret | go_end0)
      exact ⟨by rw [hs.out]; rfl, alloc_below _ _⟩
    · have hs : Hid (sgnR q = 1) := Hid.intro (by unfold sgnR; rw [if_neg h0, if_neg h1])
      have hk0 : (0 : Int) < (k : Int) := by
        rcases Nat.eq_zero_or_pos k with h | h
        · have := HK.out.1 h; omega
        · omega
      clear hd h0 h1
      gi_wp2
      all_goals (first | go_returns | go_ret | go_end0)
      exact ⟨by rw [hs.out]; rfl, alloc_below _ _⟩

theorem num_neg (q : Rat) : (-q).num = -q.num := rfl
theorem neg_parts (q : Rat) : (-q).num.natAbs = q.num.natAbs ∧ (-q).den = q.den := by
  rw [num_neg]
  exact ⟨Int.natAbs_neg _, rfl⟩
/-- Two new blocks of three cells. -/
theorem two_new (w : World) (x0 x1 x2 z0 z1 z2 : Value) : let W := (w.alloc (.cells #[x0, x1, x2] 25)).alloc (.cells #[z0, z1, z2] 25)
    Box3 W w.heap.size x0 x1 x2 ∧ Elem W (w.heap.size + 1) 25 ∧ (W.cell? ⟨w.heap.size + 1, 0, none⟩ = some z0 ∧ W.cell? ⟨w.heap.size + 1, 1, none⟩ = some z1 ∧ W.cell? ⟨w.heap.size + 1, 2, none⟩ = some z2) ∧
    (W.frozen? ⟨w.heap.size + 1, 0, none⟩ = false ∧ W.frozen? ⟨w.heap.size + 1, 1, none⟩ = false ∧ W.frozen? ⟨w.heap.size + 1, 2, none⟩ = false) ∧ Below w.heap.size w W := by
  intro W
  have e1 : (w.alloc (.cells #[x0, x1, x2] 25)).heap.size = w.heap.size + 1 := by simp
  have h2 := box3_new (w.alloc (.cells #[x0, x1, x2] 25)) z0 z1 z2 25
  rw [e1] at h2
  refine ⟨(box3_new w x0 x1 x2 25).below (alloc_below _ _), by rw [← e1]; exact elem_new _ _ _, ⟨h2.c0, h2.c1, h2.c2⟩, ?_, (alloc_below w _).alloc (by simp) _⟩
  refine ⟨?_, ?_, ?_⟩ <;> (rw [← e1]; exact World.frozen?_alloc_new _ _ _ _)

set_option maxRecDepth 100000 in
set_option maxHeartbeats 8000000 in
/-- **'Neg'.** -/
theorem neg_calls (w : World) (v : Value) (q : Rat) (h : RatAt w v q) :
    CallsIn Fence.wide 0 Tryz.prog 46 #[v] w fun e w' => ∃ v', e = .returned v' ∧ RatAt w' v' (-q) ∧ Below w.heap.size w w' := by
  obtain ⟨vn, vd, rfl, hn, hd⟩ := h
  have HM0 := Hid.intro hn
  have HD0 := Hid.intro hd
  obtain ⟨o, k, c, rfl, hk, hk9⟩ := mag_len hn
  obtain ⟨o2, k2, c2, rfl, _, _⟩ := mag_len hd
  have HK := Hid.intro hk
  have HN := Hid.intro (neg_parts q)
  clear hn hd hk
  obtain ⟨neg, hneg⟩ : ∃ neg, decide (q.num < 0) = neg := ⟨_, rfl⟩
  have HNG := Hid.intro hneg
  rw [hneg]
  clear hneg
  refine callsIn_of_wp Tryz.func46 rfl trivial ?_ rfl
  simp only [Tryz.ntmps46, List.size_toArray, List.length_cons, List.length_nil, Nat.reduceAdd, Nat.reduceSub, Array.replicate_succ, Array.replicate_zero, List.push_toArray, List.append_toArray, List.nil_append, List.cons_append]
  cases neg with
  | true =>
    have HS : Hid (decide ((-q).num < 0) = false) := Hid.intro (decide_eq_false (by have := of_decide_eq_true HNG.out; rw [num_neg]; omega))
    clear HNG
    gi_wp2
    have HT := two_new w (.bool true) (.slice o k c) (.slice o2 k2 c2) (.bool false) (.slice o k c) (.slice o2 k2 c2)
    refine ret_rat rfl rfl (w.heap.size + 1) rfl HT.2.2.1.1 HT.2.2.1.2.1 HT.2.2.1.2.2 ?_
    refine ⟨_, rfl, ⟨.slice o k c, .slice o2 k2 c2, by rw [HS.out], by rw [HN.out.1]; exact HM0.out.below HT.2.2.2.2, by rw [HN.out.2]; exact HD0.out.below HT.2.2.2.2⟩, HT.2.2.2.2⟩
  | false =>
    by_cases h1 : q.num = 0
    · have hk0 : k = 0 := HK.out.2 (by rw [h1]; rfl)
      have HS : Hid (decide ((-q).num < 0) = false) := Hid.intro (decide_eq_false (by rw [num_neg]; omega))
      subst hk0
      clear HNG h1
      gi_wp2
      have HT := two_new w (.bool false) (.slice o 0 c) (.slice o2 k2 c2) (.bool false) (.slice o 0 c) (.slice o2 k2 c2)
      refine ret_rat rfl rfl (w.heap.size + 1) rfl HT.2.2.1.1 HT.2.2.1.2.1 HT.2.2.1.2.2 ?_
      refine ⟨_, rfl, ⟨.slice o 0 c, .slice o2 k2 c2, by rw [HS.out], by rw [HN.out.1]; exact HM0.out.below HT.2.2.2.2, by rw [HN.out.2]; exact HD0.out.below HT.2.2.2.2⟩, HT.2.2.2.2⟩
    · have hk0 : (0 : Int) < (k : Int) := by
        rcases Nat.eq_zero_or_pos k with h | h
        · have := HK.out.1 h; omega
        · omega
      have hk1 : decide ((0 : Int) < (k : Int)) = true := decide_eq_true hk0
      have HS : Hid (decide ((-q).num < 0) = true) := Hid.intro (decide_eq_true (by have := of_decide_eq_false HNG.out; rw [num_neg]; omega))
      clear HNG h1
      gi_wp2
      have HT := two_new w (.bool false) (.slice o k c) (.slice o2 k2 c2) (.bool true) (.slice o k c) (.slice o2 k2 c2)
      rw [show decide (0 < k) = true from decide_eq_true (by omega)]
      refine ret_rat rfl rfl (w.heap.size + 1) rfl HT.2.2.1.1 HT.2.2.1.2.1 HT.2.2.1.2.2 ?_
      refine ⟨_, rfl, ⟨.slice o k c, .slice o2 k2 c2, by rw [HS.out], by rw [HN.out.1]; exact HM0.out.below HT.2.2.2.2, by rw [HN.out.2]; exact HD0.out.below HT.2.2.2.2⟩, HT.2.2.2.2⟩
end Go.Num
