/-
  What 'Position' of the reference answers.
  Conditions: the list's cells are known.
-/
import Derived.Test.YtjcmalmcijpnnaaDoorGridA
import Derived.Test.YtjcmalmcijpnnaaDoorChkB
import Derived.LoopIn
import Derived.Below
namespace Go.Eng
open Go.RowKit Go.Proofs Go.Proofs.YtjcmalmcijpnnaaDoor

/-- A list of ints, as a slice. -/
def IntsAt (w : World) (v : Value) (zs : List Int) : Prop :=
  (v = .slice none 0 0 ∧ zs = []) ∨ ∃ (a : Addr) (cap : Nat), v = .slice (some a) zs.length cap ∧ zs.length ≤ cap ∧ zs.length ≤ 9223372036854775807 ∧ (0 < zs.length → a.block < w.heap.size) ∧ ∀ i, i < zs.length → w.cell? (a.add i) = some (.int .i64 (zs.getD i 0))

theorem add_block (a : Addr) (i : Nat) : (a.add i).block = a.block := by
  unfold Addr.add
  split <;> rfl

/-- A call has answered whether p. -/
def Says (p : Prop) (e : Ending) : Prop := ∃ b : Bool, (b = true ↔ p) ∧ e = .returned (.bool b)
theorem Says.yes {p : Prop} {e : Ending} (h : p) (he : e = .returned (.bool true)) : Says p e := ⟨true, by simp [h], he⟩
theorem Says.no {p : Prop} {e : Ending} (h : ¬ p) (he : e = .returned (.bool false)) : Says p e := ⟨false, by simp [h], he⟩

theorem IntsAt.below {w w' : World} {v : Value} {zs : List Int} (h : IntsAt w v zs) (hb : Below w.heap.size w w') : IntsAt w' v zs := by
  rcases h with h | ⟨a, cap, rfl, hcap, hl, ha, hc⟩
  · exact .inl h
  · exact .inr ⟨a, cap, rfl, hcap, hl, fun h => Nat.lt_of_lt_of_le (ha h) hb.size, fun i hi => (hb.cell (p := a.add i) (by rw [add_block]; exact ha (by omega))).trans (hc i hi)⟩

set_option maxHeartbeats 4000000 in
theorem position_walk (w : World) (n : Int) (a : Addr) (cap : Nat) (zs : List Int) (hn : 2 ≤ n ∧ n ≤ 9) (hl : (zs.length : Int) = n) (ha : a.block < w.heap.size) (hc : ∀ i, i < zs.length → w.cell? (a.add i) = some (.int .i64 (zs.getD i 0))) :
    CallsIn Fence.wide 0 Tryd.prog 47 #[.int .i64 n, .slice (some a) zs.length cap] w fun e w' => Says (IsPos n zs) e ∧ Below w.heap.size w w' := by
  refine callsIn_of_wp Tryd.func47 rfl trivial ?_ rfl
  simp only [Tryd.ntmps47, List.size_toArray, List.length_cons, List.length_nil, Nat.reduceAdd, Nat.reduceSub, Array.replicate_succ, Array.replicate_zero, List.push_toArray, List.append_toArray, List.nil_append, List.cons_append]
  gi_wp2
  refine ⟨trivial, rfl, (number_calls w n).mono ?_⟩
  rintro e w1 ⟨rfl, hb1⟩
  have HB1 := Hid.intro hb1
  have HC : Hid (∀ i, i < zs.length → w1.cell? (a.add i) = some (.int .i64 (zs.getD i 0))) :=
    fun i hi => (hb1.cell (p := a.add i) (by rw [add_block]; exact ha)).trans (hc i hi)
  have hnum : decide (2 ≤ n ∧ n ≤ 9) = true := by simp [hn]
  rw [hnum]
  clear hb1 hnum hc
  gi_wp2
  gi_loop [5, 6] (fun met i => ∃ (k M : Nat), (k : Int) ≤ n ∧ Hid (Seen n zs k M) ∧ met = .int .i64 M ∧ i = .int .i64 k) (fun _ i => n.toNat - (intOf i).toNat)
  case atStart => exact ⟨0, 0, by omega, Seen.start n zs, rfl, rfl⟩
  case round =>
    obtain ⟨k, M, hk, HS, rfl, rfl⟩ := hrel
    have hcell : (k : Int) < n → w1.cell? (a.add k) = some (.int .i64 (zs.getD k 0)) := fun h => HC.out k (by omega)
    gi_wp2
    case roundEnd =>
      have q1 : (k : Int) < n := by assumption
      have q2 : 0 ≤ zs[k]?.getD 0 := by assumption
      have q3 : zs[k]?.getD 0 < n := by assumption
      have q4 : (0 ≤ zs[k]?.getD 0 ∧ zs[k]?.getD 0 < n) ∧ (((M : Int) / 2 ^ (zs[k]?.getD 0).toNat).tmod 2 == 1) = false := by assumption
      have hlt : (zs[k]?.getD 0).toNat < 9 := by omega
      have hb : M.testBit (zs[k]?.getD 0).toNat = false := by rw [← has_bit HS.out.small hlt]; exact q4.2
      refine ⟨⟨k + 1, M ||| 2 ^ (zs[k]?.getD 0).toNat, by omega, HS.out.next hn.2 (by omega) q2 q3 hb, ?_, ?_⟩, ?_⟩
      · rw [or_bit HS.out.small hlt]
      · simp
      · simp [intOf]; omega
    all_goals (first | go_returns | go_ret | go_end0)
    · have q1 : (k : Int) < n := by assumption
      have q2 : 0 ≤ zs[k]?.getD 0 := by assumption
      have q3 : zs[k]?.getD 0 < n := by assumption
      have q4 : (zs[k]?.getD 0 < 0 ∨ n ≤ zs[k]?.getD 0) ∨ (((M : Int) / 2 ^ (zs[k]?.getD 0).toNat).tmod 2 == 1) = true := by assumption
      have hlt : (zs[k]?.getD 0).toNat < 9 := by omega
      have hb : M.testBit (zs[k]?.getD 0).toNat = true := by
        rw [← has_bit HS.out.small hlt]
        rcases q4 with q4 | q4
        · omega
        · exact q4
      exact ⟨Says.no (HS.out.notPos hn.2 (by omega) (.inr ⟨hb, q2, q3⟩)) rfl, HB1.out⟩
    · exact ⟨Says.no (HS.out.notPos hn.2 (by omega) (.inl (by omega))) rfl, HB1.out⟩
    · exact ⟨Says.no (HS.out.notPos hn.2 (by omega) (.inl (by omega))) rfl, HB1.out⟩
    · exact ⟨Says.yes (HS.out.isPos hn hl (by assumption)) rfl, HB1.out⟩

set_option maxHeartbeats 4000000 in
theorem position_not (w : World) (n : Int) (v : Value) (zs : List Int) (hv : IntsAt w v zs) (h : ¬ ((2 ≤ n ∧ n ≤ 9) ∧ (zs.length : Int) = n)) :
    CallsIn Fence.wide 0 Tryd.prog 47 #[.int .i64 n, v] w fun e w' => Says (IsPos n zs) e ∧ Below w.heap.size w w' := by
  have hno : ¬ IsPos n zs := fun q => h ⟨q.1, q.2.1⟩
  have HH := Hid.intro h
  have hlen : ∃ (o : Option Addr) (cap : Nat), v = .slice o zs.length cap := by
    rcases hv with ⟨rfl, rfl⟩ | ⟨a, cap, rfl, _⟩
    · exact ⟨_, _, rfl⟩
    · exact ⟨_, _, rfl⟩
  obtain ⟨o, cap, rfl⟩ := hlen
  clear h hv
  refine callsIn_of_wp Tryd.func47 rfl trivial ?_ rfl
  simp only [Tryd.ntmps47, List.size_toArray, List.length_cons, List.length_nil, Nat.reduceAdd, Nat.reduceSub, Array.replicate_succ, Array.replicate_zero, List.push_toArray, List.append_toArray, List.nil_append, List.cons_append]
  refine cut2 fun z => ?_
  gi_wp2
  refine ⟨trivial, rfl, (number_calls w n).mono ?_⟩
  rintro e w1 ⟨rfl, hb1⟩
  have HB1 := Hid.intro hb1
  clear hb1
  by_cases hn : 2 ≤ n ∧ n ≤ 9
  · have hnum : decide (2 ≤ n ∧ n ≤ 9) = true := by simp [hn]
    rw [hnum]
    have hl : ¬ (zs.length : Int) = n := fun q => HH.out ⟨hn, q⟩
    clear hnum
    gi_wp2
    all_goals (first | go_returns | go_ret | go_end0)
    all_goals exact ⟨Says.no hno rfl, HB1.out⟩
  · have hnum : decide (2 ≤ n ∧ n ≤ 9) = false := by simp; omega
    rw [hnum]
    clear hnum
    gi_wp2
    all_goals (first | go_returns | go_ret | go_end0)
    all_goals exact ⟨Says.no hno rfl, HB1.out⟩

/-- **'Position' of the reference: whether a list is a position.** -/
theorem position_calls (w : World) (n : Int) (v : Value) (zs : List Int) (hv : IntsAt w v zs) :
    CallsIn Fence.wide 0 Tryd.prog 47 #[.int .i64 n, v] w fun e w' => Says (IsPos n zs) e ∧ Below w.heap.size w w' := by
  by_cases h : (2 ≤ n ∧ n ≤ 9) ∧ (zs.length : Int) = n
  · rcases hv with ⟨rfl, rfl⟩ | ⟨a, cap, rfl, _, _, ha, hc⟩
    · simp at h; omega
    · exact position_walk w n a cap zs h.1 h.2 (ha (by have := h.1; have := h.2; omega)) hc
  · exact position_not w n v zs hv h
end Go.Eng
