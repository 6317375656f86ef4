/-
  What 'isPosition' and 'CheckPosition' of the program answer.
  Conditions: the list's cells are known.
-/
import Derived.Test.YtjcmalmcijpnnaaDoorChkA
namespace Go.Eng
open Go.RowKit Go.Proofs Go.Proofs.YtjcmalmcijpnnaaDoor

theorem full_num {n : Nat} (h : n < 10) : wrap64 (wrap64 (2 ^ n) - 1) = ((2 ^ n - 1 : Nat) : Int) := by
  have q : ((List.range 10).all fun n => decide (wrap64 (wrap64 (2 ^ n) - 1) = ((2 ^ n - 1 : Nat) : Int))) = true := by kernel_rfl
  exact of_decide_eq_true (List.all_eq_true.1 q n (List.mem_range.2 h))

set_option maxHeartbeats 4000000 in
theorem isPosition_walk (w : World) (n : Int) (a : Addr) (cap : Nat) (zs : List Int) (hn : 2 ≤ n ∧ n ≤ 9) (hl : zs.length ≤ 9223372036854775807) (hc : ∀ i, i < zs.length → w.cell? (a.add i) = some (.int .i64 (zs.getD i 0))) :
    CallsIn Fence.wide 0 Tryd.prog 63 #[.int .i64 n, .slice (some a) zs.length cap] w fun e w' => Says (IsPos n zs) e ∧ Below w.heap.size w w' := by
  have HC := Hid.intro hc
  clear hc
  refine callsIn_of_wp Tryd.func63 rfl trivial ?_ rfl
  simp only [Tryd.ntmps63, List.size_toArray, List.length_cons, List.length_nil, Nat.reduceAdd, Nat.reduceSub, Array.replicate_succ, Array.replicate_zero, List.push_toArray, List.append_toArray, List.nil_append, List.cons_append]
  gi_wp2
  gi_loop [5, 10] (fun met i => ∃ (k M : Nat), k ≤ zs.length ∧ Hid (Met n zs k M) ∧ met = .int .i64 M ∧ i = .int .i64 k) (fun _ i => zs.length - (intOf i).toNat)
  case atStart => exact ⟨0, 0, by omega, Met.start n zs, rfl, rfl⟩
  case round =>
    obtain ⟨k, M, hk, HS, rfl, rfl⟩ := hrel
    have hcell : k < zs.length → w.cell? (a.add k) = some (.int .i64 (zs.getD k 0)) := fun h => HC.out k (by omega)
    gi_wp2
    case roundEnd =>
      have q1 : k < zs.length := by assumption
      have e : zs[k]?.getD 0 = zs[k] := by simp [q1]
      have q4 : 0 ≤ zs[k] ∧ zs[k] < n := by assumption
      have hlt : zs[k].toNat < 9 := by omega
      have hs := HS.out.next hn.2 q1 (by rw [e]; exact q4.1) (by rw [e]; exact q4.2)
      rw [e] at hs
      refine ⟨⟨k + 1, M ||| 2 ^ zs[k].toNat, by omega, hs, ?_, ?_⟩, ?_⟩
      · rw [or_bit HS.out.small hlt]
      · simp
      · simp [intOf]; omega
    all_goals (first | go_returns | go_ret | go_end0)
    · have q1 : k < zs.length := by assumption
      have e : zs[k]?.getD 0 = zs[k] := by simp [q1]
      exact ⟨Says.no (Met.not q1 (by rw [e]; omega)) rfl, Below.refl _ _⟩
    · have q1 : k < zs.length := by assumption
      have e : zs[k]?.getD 0 = zs[k] := by simp [q1]
      exact ⟨Says.no (Met.not q1 (by rw [e]; omega)) rfl, Below.refl _ _⟩
    · have q1 : ¬ k < zs.length := by assumption
      have q2 : (zs.length : Int) = n := by assumption
      have hd := HS.out.done hn (by omega)
      refine ⟨⟨(M : Int) == wrap64 (wrap64 (2 ^ n.toNat) - 1), ?_, rfl⟩, Below.refl _ _⟩
      rw [← hd, beq_iff_eq, full_num (by omega)]
      exact ⟨fun q => ⟨q2, by omega⟩, fun q => by omega⟩
    · have q1 : ¬ k < zs.length := by assumption
      have q2 : ¬ (zs.length : Int) = n := by assumption
      exact ⟨Says.no (fun q => q2 q.2.1) rfl, Below.refl _ _⟩

set_option maxHeartbeats 4000000 in
theorem isPosition_nil (w : World) (n : Int) (hn : 2 ≤ n ∧ n ≤ 9) :
    CallsIn Fence.wide 0 Tryd.prog 63 #[.int .i64 n, .slice none 0 0] w fun e w' => Says (IsPos n []) e ∧ Below w.heap.size w w' := by
  have hno : ¬ IsPos n [] := fun q => by have := q.2.1; simp at this; omega
  refine callsIn_of_wp Tryd.func63 rfl trivial ?_ rfl
  simp only [Tryd.ntmps63, List.size_toArray, List.length_cons, List.length_nil, Nat.reduceAdd, Nat.reduceSub, Array.replicate_succ, Array.replicate_zero, List.push_toArray, List.append_toArray, List.nil_append, List.cons_append]
  gi_wp2
  refine wpIn_loop_rounds 1 ?_
  rw [roundsIn_succ]
  gi_wp2
  all_goals (first | go_returns | go_ret | go_end0)
  all_goals exact ⟨Says.no hno rfl, Below.refl _ _⟩

/-- **'isPosition' of the program: whether a list is a position.** -/
theorem isPosition_calls (w : World) (n : Int) (v : Value) (zs : List Int) (hn : 2 ≤ n ∧ n ≤ 9) (hv : IntsAt w v zs) :
    CallsIn Fence.wide 0 Tryd.prog 63 #[.int .i64 n, v] w fun e w' => Says (IsPos n zs) e ∧ Below w.heap.size w w' := by
  rcases hv with ⟨rfl, rfl⟩ | ⟨a, cap, rfl, _, hl, ha, hc⟩
  · exact isPosition_nil w n hn
  · exact isPosition_walk w n a cap zs hn hl hc

/-- An error's number: 0, or that of an argument. -/
def ErrIf (p : Prop) (c : Int) (e : Ending) : Prop := (p ∧ e = .returned (.int .i64 c)) ∨ (¬ p ∧ e = .returned (.int .i64 0))

set_option maxHeartbeats 4000000 in
/-- **'CheckPosition' of the program.** -/
theorem checkPosition_calls (w : World) (n : Int) (v : Value) (zs : List Int) (hv : IntsAt w v zs) :
    CallsIn Fence.wide 0 Tryd.prog 46 #[.int .i64 n, v] w fun e w' => ErrIf (¬ IsPos n zs) 1 e ∧ Below w.heap.size w w' := by
  have HV := Hid.intro hv
  clear hv
  refine callsIn_of_wp Tryd.func46 rfl trivial ?_ rfl
  simp only [Tryd.ntmps46, List.size_toArray, List.length_cons, List.length_nil, Nat.reduceAdd, Nat.reduceSub, Array.replicate_succ, Array.replicate_zero, List.push_toArray, List.append_toArray, List.nil_append, List.cons_append]
  gi_wp2
  · refine ⟨trivial, rfl, (isPosition_calls w n v zs ⟨by assumption, by assumption⟩ HV.out).mono ?_⟩
    rintro e w1 ⟨⟨b, hb, rfl⟩, hB⟩
    have HB := Hid.intro hB
    have HI := Hid.intro hb
    clear hB hb
    cases b
    · gi_wp2
      all_goals (first | go_returns | go_ret | go_end0)
      exact ⟨.inl ⟨fun q => by have := HI.out.2 q; simp at this, rfl⟩, HB.out⟩
    · gi_wp2
      all_goals (first | go_returns | go_ret | go_end0)
      exact ⟨.inr ⟨fun q => q (HI.out.1 trivial), rfl⟩, HB.out⟩
  all_goals (refine ⟨trivial, ?_⟩)
  all_goals gi_wp2
  all_goals (first | go_returns | go_ret | go_end0)
  all_goals exact ⟨.inl ⟨fun q => by have := q.1; omega, rfl⟩, Below.refl _ _⟩
end Go.Eng
