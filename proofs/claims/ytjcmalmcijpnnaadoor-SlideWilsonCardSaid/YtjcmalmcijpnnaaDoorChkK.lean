/-
  What 'connected' of the program answers.
  Conditions: the board's cells are known.
-/
import Derived.Test.YtjcmalmcijpnnaaDoorChkI
import Derived.Laws.BitsLemmas
namespace Go.Eng
open Go.RowKit Go.Proofs Go.Proofs.YtjcmalmcijpnnaaDoor

theorem and_nat {a b : Nat} (ha : a < 512) (hb : b < 512) : bits .and .i64 (a : Int) (b : Int) = ((a &&& b : Nat) : Int) :=
  (bits_nat .i64 63 (by decide) (fun n h0 h1 => by rw [IntKind.wrap_i64]; omega) a b (by omega) (by omega)).1
theorem or_nat {a b : Nat} (ha : a < 512) (hb : b < 512) : bits .or .i64 (a : Int) (b : Int) = ((a ||| b : Nat) : Int) :=
  (bits_nat .i64 63 (by decide) (fun n h0 h1 => by rw [IntKind.wrap_i64]; omega) a b (by omega) (by omega)).2

/-- A board in memory. -/
structure BoardAt (w : World) (g N : Nat) (nx : Nat → Nat) : Prop where
  n : w.cell? ⟨g, 0, none⟩ = some (.int .i64 (N : Int))
  next : ∀ i, i < 9 → w.cell? ⟨g, 1 + i, none⟩ = some (.int .i64 ((nx i : Nat) : Int))

/-- The least place of a set. -/
def lowIx (M : Nat) : Nat := ((List.range 9).find? fun j => M.testBit j).getD 0
theorem low_bit {M : Nat} (h0 : 0 < M) (h : M < 512) : bits .and .i64 (M : Int) (-(M : Int)) = ((2 ^ lowIx M : Nat) : Int) ∧ M.testBit (lowIx M) = true ∧ lowIx M < 9 ∧ (∀ j, j < 9 → (2 ^ lowIx M).testBit j = true → j = lowIx M) := by
  have q : ((List.range 512).all fun M => M == 0 || (decide (bits .and .i64 (M : Int) (-(M : Int)) = ((2 ^ lowIx M : Nat) : Int)) && (M.testBit (lowIx M) && (decide (lowIx M < 9) && (List.range 9).all fun j => !(2 ^ lowIx M).testBit j || j == lowIx M)))) = true := by kernel_rfl
  have q1 := List.all_eq_true.1 q M (List.mem_range.2 h)
  simp only [Bool.or_eq_true, Bool.and_eq_true, beq_iff_eq, decide_eq_true_eq, List.all_eq_true, List.mem_range, Bool.not_eq_true'] at q1
  rcases q1 with q1 | ⟨a, b, c, d⟩
  · omega
  · exact ⟨a, b, c, fun j hj h => by rcases d j hj with d | d; · rw [h] at d; cases d
                                     · exact d⟩
theorem own_bit1 {O j : Nat} (h : O < 512) (hj : j < 9) : bits .and .i64 ((O : Int) / 2 ^ j) 1 = if O.testBit j then 1 else 0 := by
  have := all_bits (fun M j => decide (bits .and .i64 ((M : Int) / 2 ^ j) 1 = if M.testBit j then 1 else 0)) (by kernel_rfl) h hj
  exact of_decide_eq_true this

/-- What is known of the places that are reached. -/
structure Own (nx : Nat → Nat) (set O : Nat) : Prop where
  small : O < 512
  low : O.testBit (lowIx set) = true
  sub : ∀ j, O.testBit j = true → set.testBit j = true
  sound : ∀ j, O.testBit j = true → Rch (BitAdj nx set) (lowIx set) j

theorem Own.start {nx : Nat → Nat} {set : Nat} (h0 : 0 < set) (h : set < 512) : Own nx set (2 ^ lowIx set) := by
  obtain ⟨_, b, c, d⟩ := low_bit h0 h
  have e : ∀ j, (2 ^ lowIx set).testBit j = true → j = lowIx set := fun j hj => by
    rw [Nat.testBit_two_pow, decide_eq_true_eq] at hj
    exact hj.symm
  refine ⟨?_, by rw [Nat.testBit_two_pow]; simp, fun j hj => by rw [e j hj]; exact b, fun j hj => by rw [e j hj]; exact .start⟩
  exact Nat.pow_lt_pow_of_lt (a := 2) (m := 9) (by decide) c
theorem Own.bit {nx : Nat → Nat} {set O : Nat} (h : Own nx set O) (i : Nat) (hset : set < 512) : Own nx set (oneBit nx set O i) := by
  refine ⟨?_, oneBit_bit h.low, ?_, fun j hj => oneBit_sound h.sound hj⟩
  · unfold oneBit
    split
    · exact or_lt9 h.small (and_lt9 hset)
    · exact h.small
  · intro j hj
    unfold oneBit at hj
    split at hj
    · rw [Nat.testBit_or, Bool.or_eq_true, Nat.testBit_and, Bool.and_eq_true] at hj
      rcases hj with hj | hj
      · exact h.sub j hj
      · exact hj.2
    · exact h.sub j hj
theorem Own.pass {nx : Nat → Nat} {set O : Nat} (h : Own nx set O) (hset : set < 512) : ∀ k, Own nx set (onePass nx set O k)
  | 0 => h
  | k + 1 => (h.pass hset k).bit k hset
/-- The last set is the whole one just if its places are connected. -/
theorem Own.done {nx : Nat → Nat} {set O N : Nat} (h : Own nx set O) (hset : set < 2 ^ N) (hfix : onePass nx set O N = O) : O = set ↔ ∀ j, set.testBit j = true → Rch (BitAdj nx set) (lowIx set) j := by
  have hlt : ∀ i, O.testBit i = true → i < N := fun i hi => by
    have := h.sub i hi
    rcases Nat.lt_or_ge i N with q | q
    · exact q
    · have := Nat.testBit_lt_two_pow (Nat.lt_of_lt_of_le hset (Nat.pow_le_pow_right (by decide) q))
      simp_all
  have law := bits_law hfix hlt h.low h.sound
  constructor
  · intro e j hj
    rw [← e] at hj
    exact (law j).1 hj
  · intro q
    apply Nat.eq_of_testBit_eq
    intro j
    cases hj : O.testBit j with
    | true => exact (h.sub j hj).symm
    | false => cases hs : set.testBit j with
      | false => rfl
      | true => have := (law j).2 (q j hs); rw [hj] at this; cases this

set_option maxHeartbeats 4000000 in
theorem connected_calls (w : World) (g N : Nat) (hN : 2 ≤ N ∧ N ≤ 9) (nx : Nat → Nat) (hb : BoardAt w g N nx) (hnx : ∀ i, nx i < 512) (set : Nat) (hs : 0 < set ∧ set < 2 ^ N) :
    CallsIn Fence.wide 0 Tryd.prog 61 #[.pointer (some ⟨g, 0, none⟩), .int .i64 (set : Int)] w fun e w' => Says (∀ j, set.testBit j = true → Rch (BitAdj nx set) (lowIx set) j) e ∧ w = w' := by
  have hs9 : set < 512 := Nat.lt_of_lt_of_le hs.2 (Nat.pow_le_pow_right (by decide) hN.2 : 2 ^ N ≤ 2 ^ 9)
  have hn := hb.n
  have HX := Hid.intro hb.next
  have HNX := Hid.intro hnx
  have HL := Hid.intro (low_bit hs.1 hs9).1
  have HS2 := Hid.intro hs
  clear hb hnx hs
  refine callsIn_of_wp Tryd.func61 rfl trivial ?_ rfl
  simp only [Tryd.ntmps61, List.size_toArray, List.length_cons, List.length_nil, Nat.reduceAdd, Nat.reduceSub, Array.replicate_succ, Array.replicate_zero, List.push_toArray, List.append_toArray, List.nil_append, List.cons_append]
  gi_wp2
  gi_loop [5, 6] (fun own last => ∃ O L : Nat, own = .int .i64 (O : Int) ∧ last = .int .i64 (L : Int) ∧ Hid (Own nx set O) ∧ Hid (L = O → onePass nx set O N = O)) (fun own last => if intOf own = intOf last then 0 else 513 - (intOf own).toNat)
  case atStart =>
    refine ⟨2 ^ lowIx set, 0, by rw [HL.out], rfl, Own.start HS2.out.1 hs9, fun h => ?_⟩
    have := Nat.two_pow_pos (lowIx set)
    omega
  case round =>
    obtain ⟨O, L, rfl, rfl, HO, HF⟩ := hrel
    by_cases hLO : L = O
    · gi_wp2
      all_goals (first | go_returns | go_ret | go_end0)
      exact ⟨⟨(O : Int) == (set : Int), by
        rw [← HO.out.done HS2.out.2 (HF.out hLO), beq_iff_eq]
        omega, rfl⟩, rfl⟩
    · gi_wp2
      gi_loop [5, 20] (fun own i => ∃ k : Nat, k ≤ N ∧ i = .int .i64 (k : Int) ∧ own = .int .i64 ((onePass nx set O k : Nat) : Int)) (fun _ i => N - (intOf i).toNat)
      case atStart => exact ⟨0, by omega, rfl, rfl⟩
      case round =>
        obtain ⟨k, hk, rfl, rfl⟩ := hrel
        obtain ⟨T, hT⟩ : ∃ T, onePass nx set O k = T := ⟨_, rfl⟩
        have HT := Hid.intro hT
        rw [hT]
        clear hT
        by_cases hkN : k < N
        · have c := HX.out k (by omega)
          have HOT : Hid (Own nx set T) := by have := HO.out.pass hs9 k; rw [HT.out] at this; exact this
          have HB : Hid (onePass nx set O (k + 1) = oneBit nx set T k) := by
            show oneBit nx set (onePass nx set O k) k = _
            rw [HT.out]
          have HQ := Hid.intro (own_bit1 HOT.out.small (show k < 9 by omega))
          gi_wp2
          case roundEnd =>
            have q : (bits BinOp.and IntKind.i64 ((T : Int) / 2 ^ k) 1 == 1) = true := by assumption
            have q2 : T.testBit k = true := by
              rw [HQ.out] at q
              cases h : T.testBit k with
              | true => rfl
              | false => rw [h] at q; cases q
            refine ⟨⟨k + 1, by omega, by go_num, ?_⟩, by simp [intOf]; omega⟩
            rw [HB.out, and_nat (HNX.out k) hs9, or_nat HOT.out.small (and_lt9 hs9)]
            unfold oneBit
            rw [if_pos q2]
          case roundEnd =>
            have q : (bits BinOp.and IntKind.i64 ((T : Int) / 2 ^ k) 1 == 1) = false := by assumption
            have q2 : ¬ T.testBit k = true := by
              rw [HQ.out] at q
              intro h
              rw [h] at q; cases q
            refine ⟨⟨k + 1, by omega, by go_num, ?_⟩, by simp [intOf]; omega⟩
            rw [HB.out]
            unfold oneBit
            rw [if_neg q2]
        · gi_wp2
          case roundEnd =>
            have hkN' : k = N := by omega
            subst hkN'
            have HOT : Own nx set T := by have := HO.out.pass hs9 k; rw [HT.out] at this; exact this
            have hle : O ≤ T := by have := onePass_le (next := nx) (set := set) (own := O) k; rw [HT.out] at this; exact this
            have hsm := HOT.small
            refine ⟨⟨T, O, rfl, rfl, HOT, fun e => by rw [← e, HT.out]; exact e.symm⟩, ?_⟩
            have hne : ¬ (intOf (Value.int .i64 (O : Int)) = intOf (Value.int .i64 (L : Int))) := fun e => hLO (by have : (O : Int) = L := e; omega)
            rw [if_neg hne]
            show (if (T : Int) = (O : Int) then 0 else 513 - ((T : Int)).toNat) < 513 - ((O : Int)).toNat
            split <;> omega
end Go.Eng
