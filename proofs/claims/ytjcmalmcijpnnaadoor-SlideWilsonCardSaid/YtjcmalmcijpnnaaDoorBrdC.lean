/-
  What 'Sides' of the reference answers.
  Conditions: the pairs are the edges of a board; their cells are known.
-/
import Derived.Test.YtjcmalmcijpnnaaDoorBrdB
namespace Go.Eng
open Go.RowKit Go.Proofs Go.Proofs.YtjcmalmcijpnnaaDoor

def SSmall (s : Nat × Nat) : Prop := s.1 < 512 ∧ s.2 < 512
theorem sEdge_small {s q : Nat × Nat} (h : SSmall s) (hq : q.1 < 9 ∧ q.2 < 9) : SSmall (sEdge s q) := by
  have hif : ∀ (b : Bool) (M j : Nat), M < 512 → j < 9 → (if b = true then M ||| 2 ^ j else M) < 512 := fun b M j hM hj => by
    cases b
    · simpa using hM
    · simpa using or_lt hM hj
  exact ⟨hif _ _ _ (hif _ _ _ h.1 hq.2) hq.1, hif _ _ _ (hif _ _ _ h.2 hq.2) hq.1⟩
theorem foldl_ssmall : ∀ (l : List (Nat × Nat)) (s : Nat × Nat), SSmall s → (∀ q ∈ l, q.1 < 9 ∧ q.2 < 9) → SSmall (l.foldl sEdge s)
  | [], _, h, _ => h
  | q :: l, s, h, hq => foldl_ssmall l _ (sEdge_small h (hq q (by simp))) (fun x hx => hq x (by simp [hx]))
theorem sRounds_small {qs : List (Nat × Nat)} (hq : ∀ q ∈ qs, q.1 < 9 ∧ q.2 < 9) : ∀ k, SSmall (sRounds qs k)
  | 0 => by unfold sRounds SSmall; decide
  | k + 1 => foldl_ssmall _ _ (sRounds_small hq k) hq
theorem sEdge_next {qs : List (Nat × Nat)} {k x y : Nat} {s0 s : Nat × Nat} (hlt : k < qs.length) (hx : (qs.getD k (0, 0)).1 = x) (hy : (qs.getD k (0, 0)).2 = y) (hS : (qs.take k).foldl sEdge s0 = s) :
    (qs.take (k + 1)).foldl sEdge s0 = sEdge s (x, y) := by
  rw [List.take_succ_eq_append_getElem hlt, List.foldl_append, hS]
  have : qs[k] = (x, y) := by
    rw [List.getD_eq_getElem?_getD, List.getElem?_eq_getElem hlt] at hx hy
    exact Prod.ext hx hy
  rw [this]; rfl

def SidesSays (A : Nat → Nat → Prop) (e : Ending) : Prop := ∃ (l : Nat) (ok : Bool), SidesIs A l ok ∧ e = .returned (.tuple #[.int .i64 (l : Int), .bool ok])
theorem and_nat0 {a b : Nat} (ha : a < 512) (hb : b < 512) : bits .and .i64 (a : Int) (b : Int) = ((a &&& b : Nat) : Int) := and_nat ha hb

set_option maxRecDepth 100000 in
set_option maxHeartbeats 8000000 in
theorem refSides_walk (w : World) (N : Nat) (hN : 2 ≤ N ∧ N ≤ 9) (o : Option Addr) (cap : Nat) (qs : List (Nat × Nat)) (hv : EdgesAt w o qs) (hl : qs.length ≤ 1000) (hq : ∀ q ∈ qs, q.1 < N ∧ q.2 < N) (hc : ∀ i, i < N → Rch (Adj qs) 0 i) :
    CallsIn Fence.wide 0 Tryd.prog 37 #[.int .i64 (N : Int), .slice o qs.length cap] w fun e w' => SidesSays (Adj qs) e ∧ Below w.heap.size w w' := by
  have HV := Hid.intro hv
  have HQ := Hid.intro hq
  have HSm : Hid (∀ k, SSmall (sRounds qs k)) := sRounds_small fun q h => by have := hq q h; omega
  have HLaw := Hid.intro (fun L R hLR => sRounds_law (by omega) hq hc L R hLR)
  clear hv hq hc
  refine callsIn_of_wp Tryd.func37 rfl trivial ?_ rfl
  simp only [Tryd.ntmps37, List.size_toArray, List.length_cons, List.length_nil, Nat.reduceAdd, Nat.reduceSub, Array.replicate_succ, Array.replicate_zero, List.push_toArray, List.append_toArray, List.nil_append, List.cons_append]
  gi_wp2
  gi_loopw [6, 7, 8] (fun l r i wr => ∃ k : Nat, k ≤ N ∧ i = .int .i64 (k : Int) ∧ l = .int .i64 (((sRounds qs k).1 : Nat) : Int) ∧ r = .int .i64 (((sRounds qs k).2 : Nat) : Int) ∧ Hid (Below w.heap.size w wr)) (fun _ _ i _ => N - (intOf i).toNat)
  case atStart => exact ⟨0, by omega, rfl, rfl, rfl, Below.refl _ _⟩
  case round =>
    obtain ⟨k, hk, rfl, rfl, rfl, HB⟩ := hrel
    by_cases hkN : k < N
    · obtain ⟨s0, hs0⟩ : ∃ s0, sRounds qs k = s0 := ⟨_, rfl⟩
      have HS0 := Hid.intro hs0
      rw [hs0]
      have HSm0 : Hid (SSmall s0) := by rw [← hs0]; exact HSm.out k
      clear hs0
      gi_wp2
      gi_loopw [6, 7, 9] (fun l r t wr => ∃ (t' : Nat) (s : Nat × Nat), t' ≤ qs.length ∧ t = .int .i64 (t' : Int) ∧ l = .int .i64 ((s.1 : Nat) : Int) ∧ r = .int .i64 ((s.2 : Nat) : Int) ∧ Hid (s = (qs.take t').foldl sEdge s0) ∧ Hid (SSmall s) ∧ Hid (Below w.heap.size w wr)) (fun _ _ t _ => qs.length - (intOf t).toNat)
      case atStart => exact ⟨0, s0, by omega, rfl, rfl, rfl, rfl, HSm0.out, HB.out⟩
      case round =>
        clear HB
        obtain ⟨t, ⟨L, R⟩, ht, rfl, rfl, rfl, HT, HSs, HB⟩ := hrel
        by_cases hlt : t < qs.length
        · obtain ⟨a, rfl, ha, hc⟩ := HV.out (by omega)
          have g0 := (HB.out.cell (p := a.add (t * 2)) (by rw [add_block]; exact ha)).trans (hc t hlt).1
          have g1 := (HB.out.cell (p := a.add (t * 2 + 1)) (by rw [add_block]; exact ha)).trans (hc t hlt).2
          rw [← add_add_one] at g1
          have hmem := HQ.out qs[t] (List.getElem_mem hlt)
          have hget : qs.getD t (0, 0) = qs[t] := by rw [List.getD_eq_getElem?_getD, List.getElem?_eq_getElem hlt]; rfl
          obtain ⟨x, hxe⟩ : ∃ x, (qs.getD t (0, 0)).1 = x := ⟨_, rfl⟩
          obtain ⟨y, hye⟩ : ∃ y, (qs.getD t (0, 0)).2 = y := ⟨_, rfl⟩
          have hx : x < 9 := by rw [← hxe, hget]; omega
          have hy : y < 9 := by rw [← hye, hget]; omega
          rw [hxe] at g0
          rw [hye] at g1
          have HN := Hid.intro (sEdge_next hlt hxe hye HT.out.symm)
          have hL : L < 512 := HSs.out.1
          have hR : R < 512 := HSs.out.2
          have HSn := Hid.intro (sEdge_small HSs.out (q := (x, y)) ⟨hx, hy⟩)
          obtain ⟨R1, hR1⟩ : ∃ R1, R1 = if L.testBit x = true then R ||| 2 ^ y else R := ⟨_, rfl⟩
          obtain ⟨R2, hR2⟩ : ∃ R2, R2 = if L.testBit y = true then R1 ||| 2 ^ x else R1 := ⟨_, rfl⟩
          obtain ⟨L1, hL1⟩ : ∃ L1, L1 = if R2.testBit x = true then L ||| 2 ^ y else L := ⟨_, rfl⟩
          obtain ⟨L2, hL2⟩ : ∃ L2, L2 = if R2.testBit y = true then L1 ||| 2 ^ x else L1 := ⟨_, rfl⟩
          have HE : Hid (sEdge (L, R) (x, y) = (L2, R2)) := by rw [hL2, hL1, hR2, hR1]; rfl
          have HG : Hid ((L2, R2) = (qs.take (t + 1)).foldl sEdge s0 ∧ SSmall (L2, R2)) := by
            have e := HE.out
            exact ⟨by rw [← e]; exact HN.out.symm, by rw [← e]; exact HSn.out⟩
          clear HE HN HSn HT HSs
          have hR1s : R1 < 512 := by rw [hR1]; split; exact or_lt hR hy; exact hR
          have hR2s : R2 < 512 := by rw [hR2]; split; exact or_lt hR1s hx; exact hR1s
          have hL1s : L1 < 512 := by rw [hL1]; split; exact or_lt hL hy; exact hL
          have t1 := has_bit hL hx
          have t2 := has_bit hL hy
          have t3 := has_bit hR2s hx
          have t4 := has_bit hR2s hy
          have o1 := or_bit hR hy
          have o2 := or_bit hR1s hx
          have o3 := or_bit hL hy
          have o4 := or_bit hL1s hx
          clear hc hxe hye hmem hget hR1s hR2s hL1s hL hR
          cases b1 : L.testBit x <;> rw [b1] at hR1 t1 <;> simp only [if_true, Bool.false_eq_true, if_false] at hR1 <;> clear b1 <;>
          cases b2 : L.testBit y <;> rw [b2] at hR2 t2 <;> simp only [if_true, Bool.false_eq_true, if_false] at hR2 <;> clear b2 <;>
          cases b3 : R2.testBit x <;> rw [b3] at hL1 t3 <;> simp only [if_true, Bool.false_eq_true, if_false] at hL1 <;> clear b3 <;>
          cases b4 : R2.testBit y <;> rw [b4] at hL2 t4 <;> simp only [if_true, Bool.false_eq_true, if_false] at hL2 <;> clear b4
          all_goals
            subst hR1
            subst hR2
            subst hL1
            subst hL2
            gi_wp2
            gi_region
            gi_wp2
            exact ⟨⟨t + 1, (_, _), by omega, by go_num, rfl, rfl, HG.out.1, HG.out.2, HB.out.drew⟩, by simp [intOf]; omega⟩
        · gi_wp2
          have e : qs.foldl sEdge s0 = (L, R) := by have := HT.out; rw [List.take_of_length_le (by omega)] at this; exact this.symm
          have e2 : sRounds qs (k + 1) = (L, R) := by show qs.foldl sEdge (sRounds qs k) = _; rw [HS0.out, e]
          exact ⟨⟨k + 1, by omega, by go_num, by rw [e2], by rw [e2], HB.out⟩, by simp [intOf]; omega⟩
    · have hkn : k = N := by omega
      subst hkn
      have HA := Hid.intro (and_nat (HSm.out k).1 (HSm.out k).2)
      have HR := Hid.intro (HLaw.out _ _ rfl)
      gi_wp2
      all_goals (first | go_returns | go_ret | go_end0)
      · have h : (bits BinOp.and IntKind.i64 (((sRounds qs k).1 : Nat) : Int) (((sRounds qs k).2 : Nat) : Int) != 0) = true := by assumption
        have hz : ¬ ((sRounds qs k).1 &&& (sRounds qs k).2 = 0) := by
          rw [HA.out] at h
          simp at h
          exact h
        have hr := HR.out
        rw [if_neg hz, decide_eq_false hz] at hr
        exact ⟨⟨0, false, hr, rfl⟩, HB.out⟩
      · have h : (bits BinOp.and IntKind.i64 (((sRounds qs k).1 : Nat) : Int) (((sRounds qs k).2 : Nat) : Int) != 0) = false := by assumption
        have hz : (sRounds qs k).1 &&& (sRounds qs k).2 = 0 := by
          rw [HA.out] at h
          simp at h
          exact h
        have hr := HR.out
        rw [if_pos hz, decide_eq_true hz] at hr
        exact ⟨⟨_, true, hr, rfl⟩, HB.out⟩

/-- **'Sides' of the reference.** -/
theorem refSides_calls (w : World) (N : Nat) (hN : 2 ≤ N ∧ N ≤ 9) (v : Value) (ps : List (Int × Int)) (hv : PairsAt w v ps) (hl : ps.length ≤ 1000) (hb : IsBoard N ps) :
    CallsIn Fence.wide 0 Tryd.prog 37 #[.int .i64 (N : Int), v] w fun e w' => SidesSays (Adj (nats ps)) e ∧ Below w.heap.size w w' := by
  rw [← ints_nats hb.1] at hv
  obtain ⟨o, cap, rfl, he⟩ := hv.edges
  have hm := nats_mem hb.1
  exact refSides_walk w N hN o cap (nats ps) he (by rw [nats_len]; exact hl) (fun q hq => by have := hm q hq; omega) (fun i hi => (hb.2 i hi (by omega)).mono fun a b h => h.1)
end Go.Eng
