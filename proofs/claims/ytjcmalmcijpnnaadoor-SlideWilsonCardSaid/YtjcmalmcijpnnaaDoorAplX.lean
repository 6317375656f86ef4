/-
  What the program and the reference do with positions and moves.
  Conditions: none.
-/
import Derived.Test.YtjcmalmcijpnnaaDoorChkX
import Derived.Test.YtjcmalmcijpnnaaDoorBrdE
import Derived.Sort.QuietIn
import Derived.Test.YtjcmalmcijpnnaaDoorChkP

namespace Go.Eng
open Go.RowKit Go.Proofs Go.Proofs.YtjcmalmcijpnnaaDoor

/-- A position as the program has it. -/
def pos9 (z : Nat → Int) : Array Value := #[.int .i8 (z 0), .int .i8 (z 1), .int .i8 (z 2), .int .i8 (z 3), .int .i8 (z 4), .int .i8 (z 5), .int .i8 (z 6), .int .i8 (z 7), .int .i8 (z 8)]
theorem pos9_at (z : Nat → Int) {i : Nat} (hi : i < 9) : (pos9 z)[i]? = some (.int .i8 (z i)) := by
  have : i = 0 ∨ i = 1 ∨ i = 2 ∨ i = 3 ∨ i = 4 ∨ i = 5 ∨ i = 6 ∨ i = 7 ∨ i = 8 := by omega
  rcases this with rfl | rfl | rfl | rfl | rfl | rfl | rfl | rfl | rfl <;> rfl
def i8Cell (z : Nat → Int) : Nat → Value := fun i => .int .i8 (z i)

set_option maxHeartbeats 4000000 in
/-- **slices.Index of 0.** -/
theorem index_calls (w : World) (g N cap : Nat) (hN : N ≤ 9) (z : Nat → Int) (hz : ∀ i, i < N → w.cell? ⟨g, i, none⟩ = some (.int .i8 (z i))) (h : Nat) (hh : h < N) (h0 : z h = 0) (hne : ∀ i, i < h → z i ≠ 0) :
    CallsIn Fence.wide 0 Tryd.prog 70 #[.slice (some ⟨g, 0, none⟩) N cap, .int .i8 0] w fun e w' => e = .returned (.int .i64 (h : Int)) ∧ w = w' := by
  have HZ := Hid.intro hz
  have HNE := Hid.intro hne
  have H0 := Hid.intro h0
  clear hz hne h0
  refine callsIn_of_wp Tryd.func70 rfl trivial ?_ rfl
  simp only [Tryd.ntmps70, List.size_toArray, List.length_cons, List.length_nil, Nat.reduceAdd, Nat.reduceSub, Array.replicate_succ, Array.replicate_zero, List.push_toArray, List.append_toArray, List.nil_append, List.cons_append]
  gi_wp2
  gi_loop [8] (fun i => ∃ k : Nat, k ≤ h ∧ i = .int .i64 (k : Int)) (fun i => N - (intOf i).toNat)
  case atStart => exact ⟨0, by omega, rfl⟩
  case round =>
    obtain ⟨k, hk, rfl⟩ := hrel
    have hkN : k < N := by omega
    have c := HZ.out k hkN
    obtain ⟨x, hx⟩ : ∃ x, z k = x := ⟨_, rfl⟩
    rw [hx] at c
    by_cases hkh : k = h
    · subst hkh
      have hx0 : x = 0 := by rw [← hx]; exact H0.out
      subst hx0
      clear hx
      gi_wp2
      all_goals (first | go_returns | go_ret | go_end0)
      exact ⟨rfl, rfl⟩
    · have hx0 : ¬ x = 0 := by rw [← hx]; exact HNE.out k (by omega)
      have hb : ((0 : Int) == x) = false := by simp; omega
      clear hx
      gi_wp2
      exact ⟨⟨k + 1, by omega, by go_num⟩, by simp [intOf]; omega⟩

theorem u83 : Tryd.prog.underlying 83 = some (.array (Tryd.prog.arrayLen 83) (Tryd.prog.elem 83)) := by kernel_rfl
theorem len83 : Tryd.prog.arrayLen 83 = 9 := by kernel_rfl
theorem elem83 : Tryd.prog.elem 83 = 81 := by kernel_rfl
theorem info81 : Tryd.prog.info? 81 = some Tryd.t81 := by kernel_rfl
theorem size81 : Tryd.t81.size = 1 := by kernel_rfl
theorem slice83_run (w : World) (g N : Nat) (hN : N ≤ 9) : (Instr.sliceAt 83 (.pointer (some ⟨g, 0, none⟩)) none (some (.int .i64 (N : Int))) none).run Tryd.prog w = .ok (.slice (some ⟨g, 0, none⟩) N 9) w := by
  rw [run_sliceAt_array_h w 83 _ u83 .i64 (N : Int) (by omega) (by rw [len83]; omega)]
  have h0 : (⟨g, 0, none⟩ : Addr).add 0 = ⟨g, 0, none⟩ := rfl
  simp [sizeOf, typeInfo, elem83, info81, size81, slicedAt, len83, Result.andThen, h0]

set_option maxRecDepth 100000 in
set_option maxHeartbeats 4000000 in
/-- **'hole' of the program.** -/
theorem hole_calls (w : World) (g N : Nat) (hN : 2 ≤ N ∧ N ≤ 9) (hn : w.cell? ⟨g, 0, none⟩ = some (.int .i64 (N : Int))) (hg : g < w.heap.size) (z : Nat → Int) (h : Nat) (hh : h < N) (h0 : z h = 0) (hne : ∀ i, i < h → z i ≠ 0) :
    CallsIn Fence.wide 0 Tryd.prog 58 #[.pointer (some ⟨g, 0, none⟩), .agg (pos9 z)] w fun e w' => e = .returned (.int .i64 (h : Int)) ∧ Below w.heap.size w w' := by
  have HI : Hid (∀ t, CallsIn Fence.wide 0 Tryd.prog 70 #[.slice (some ⟨w.heap.size, 0, none⟩) N 9, .int .i8 0] (w.alloc (.cells (pos9 z) t)) fun e w' => e = .returned (.int .i64 (h : Int)) ∧ (w.alloc (.cells (pos9 z) t)) = w') := fun t =>
    index_calls _ w.heap.size N 9 (by omega) z (fun i hi => by rw [World.cell?_alloc_new]; exact pos9_at z (by omega)) h hh h0 hne
  have hsl := fun w' => slice83_run w' w.heap.size N hN.2
  clear h0 hne
  unfold pos9 at HI ⊢
  refine callsIn_of_wp Tryd.func58 rfl trivial ?_ rfl
  simp only [Tryd.ntmps58, List.size_toArray, List.length_cons, List.length_nil, Nat.reduceAdd, Nat.reduceSub, Array.replicate_succ, Array.replicate_zero, List.push_toArray, List.append_toArray, List.nil_append, List.cons_append]
  gi_wp2_with (gi_at_call 70; refine (HI.out _).mono ?_; rintro e w1 ⟨rfl, rfl⟩)
  all_goals (first | go_returns | go_ret | go_end0)
  exact ⟨rfl, (Below.refl _ _).alloc (Nat.le_refl _) _⟩

/-- A position after a move. -/
def swapAt (z : Nat → Int) (a b : Nat) : Nat → Int := fun i => if i = b then z a else if i = a then z b else z i

theorem nine_cells {w : World} {g : Nat} {z : Nat → Int} (h : ArrAt w g 9 (i8Cell z)) : (w.cell? ⟨g, 0, none⟩ = some (.int .i8 (z 0)) ∧ w.cell? ⟨g, 1, none⟩ = some (.int .i8 (z 1)) ∧ w.cell? ⟨g, 2, none⟩ = some (.int .i8 (z 2)) ∧ w.cell? ⟨g, 3, none⟩ = some (.int .i8 (z 3)) ∧ w.cell? ⟨g, 4, none⟩ = some (.int .i8 (z 4)) ∧ w.cell? ⟨g, 5, none⟩ = some (.int .i8 (z 5)) ∧ w.cell? ⟨g, 6, none⟩ = some (.int .i8 (z 6)) ∧ w.cell? ⟨g, 7, none⟩ = some (.int .i8 (z 7)) ∧ w.cell? ⟨g, 8, none⟩ = some (.int .i8 (z 8))) :=
  ⟨(h 0 (by omega)).1, (h 1 (by omega)).1, (h 2 (by omega)).1, (h 3 (by omega)).1, (h 4 (by omega)).1, (h 5 (by omega)).1, (h 6 (by omega)).1, (h 7 (by omega)).1, (h 8 (by omega)).1⟩
def zero9 : Array Value := #[.int .i8 0, .int .i8 0, .int .i8 0, .int .i8 0, .int .i8 0, .int .i8 0, .int .i8 0, .int .i8 0, .int .i8 0]
theorem zero83 : zero9 = pos9 fun _ => 0 := rfl

set_option maxRecDepth 100000 in
set_option maxHeartbeats 8000000 in
/-- **'moved' of the program.** -/
theorem moved_calls (w : World) (z : Nat → Int) (a b : Nat) (ha : a < 9) (hb : b < 9) :
    CallsIn Fence.wide 0 Tryd.prog 59 #[.agg (pos9 z), .int .i64 (a : Int), .int .i64 (b : Int)] w fun e w' => e = .returned (.agg (pos9 (swapAt z a b))) ∧ Below w.heap.size w w' := by
  have HA1 : Hid (ArrAt ((w.alloc (.cells (pos9 z) 83)).alloc (.cells zero9 83)) w.heap.size 9 (i8Cell z)) :=
    (ArrAt.new w _ _ fun i hi => pos9_at z hi).alloc (by simp) _
  have HZ1 : Hid (ArrAt ((w.alloc (.cells (pos9 z) 83)).alloc (.cells zero9 83)) (w.heap.size + 1) 9 (i8Cell fun _ => 0)) := by
    have e : w.heap.size + 1 = (w.alloc (.cells (pos9 z) 83)).heap.size := by simp
    rw [e, zero83]
    exact ArrAt.new _ _ _ fun i hi => pos9_at _ hi
  have HB1 : Hid (Below w.heap.size w ((w.alloc (.cells (pos9 z) 83)).alloc (.cells zero9 83))) := ((Below.refl _ _).alloc (Nat.le_refl _) _).alloc (by simp) _
  obtain ⟨W1, hW1⟩ : ∃ W1, W1 = (w.alloc (.cells (pos9 z) 83)).alloc (.cells zero9 83) := ⟨_, rfl⟩
  rw [← hW1] at HA1 HZ1 HB1
  have HW1 := Hid.intro hW1
  clear hW1
  unfold pos9 zero9 at HW1
  unfold pos9
  refine callsIn_of_wp Tryd.func59 rfl trivial ?_ rfl
  simp only [Tryd.ntmps59, List.size_toArray, List.length_cons, List.length_nil, Nat.reduceAdd, Nat.reduceSub, Array.replicate_succ, Array.replicate_zero, List.push_toArray, List.append_toArray, List.nil_append, List.cons_append]
  gi_wp2
  rw [← HW1.out]
  have a0 : W1.cell? ⟨w.heap.size, a, none⟩ = some (.int .i8 (z a)) := (HA1.out a ha).1
  have a1 := (HA1.out a ha).2
  have b0 : W1.cell? ⟨w.heap.size, b, none⟩ = some (.int .i8 (z b)) := (HA1.out b hb).1
  have b1 := (HA1.out b hb).2
  have k0 := (HA1.out.set ha (.int .i8 (z b)) b hb).1
  have k1 := (HA1.out.set hb (.int .i8 (z a)) a ha).1
  obtain ⟨v0, k0⟩ : ∃ v, (W1.setCell ⟨w.heap.size, a, none⟩ (.int .i8 (z b))).cell? ⟨w.heap.size, b, none⟩ = some v := ⟨_, k0⟩
  obtain ⟨v1, k1⟩ : ∃ v, (W1.setCell ⟨w.heap.size, b, none⟩ (.int .i8 (z a))).cell? ⟨w.heap.size, a, none⟩ = some v := ⟨_, k1⟩
  gi_region
  obtain ⟨W2, hW2⟩ : ∃ W2, W2 = ((W1.setCell ⟨w.heap.size, a, none⟩ (.int .i8 (z b))).setCell ⟨w.heap.size, b, none⟩ (.int .i8 (z a))).drew := ⟨_, rfl⟩
  rw [← hW2]
  have HA2 : Hid (ArrAt W2 w.heap.size 9 (i8Cell (swapAt z a b))) := by
    rw [hW2]
    refine ArrAt.congr ((HA1.out.set ha (.int .i8 (z b))).set hb (.int .i8 (z a))) fun j _ => ?_
    unfold i8Cell swapAt
    by_cases e1 : j = b
    · simp [e1]
    · by_cases e2 : j = a
      · subst e2
        simp [e1]
      · simp [e1, e2]
  have HZ2 : Hid (ArrAt W2 (w.heap.size + 1) 9 (i8Cell fun _ => 0)) := by
    rw [hW2]
    exact (HZ1.out.far (p := ⟨w.heap.size, a, none⟩) (by simp) _).far (p := ⟨w.heap.size, b, none⟩) (by simp) _
  have HB2 : Hid (Below w.heap.size w W2) := by rw [hW2]; exact ((HB1.out.setCell (p := ⟨w.heap.size, a, none⟩) (Nat.le_refl _) _).setCell (p := ⟨w.heap.size, b, none⟩) (Nat.le_refl _) _).drew
  obtain ⟨c0, c1, c2, c3, c4, c5, c6, c7, c8⟩ := nine_cells HA2.out
  obtain ⟨e0, e1, e2, e3, e4, e5, e6, e7, e8⟩ := nine_cells HZ2.out
  have q0 := (HZ2.out 0 (by omega)).2
  have q1 := (HZ2.out 1 (by omega)).2
  have q2 := (HZ2.out 2 (by omega)).2
  have q3 := (HZ2.out 3 (by omega)).2
  have q4 := (HZ2.out 4 (by omega)).2
  have q5 := (HZ2.out 5 (by omega)).2
  have q6 := (HZ2.out 6 (by omega)).2
  have q7 := (HZ2.out 7 (by omega)).2
  have q8 := (HZ2.out 8 (by omega)).2
  clear hW2 a0 a1 b0 b1 k0 k1
  gi_wp2
  refine bodyPost_ret (v := .agg #[.int .i8 (swapAt z a b 0), .int .i8 (swapAt z a b 1), .int .i8 (swapAt z a b 2), .int .i8 (swapAt z a b 3), .int .i8 (swapAt z a b 4), .int .i8 (swapAt z a b 5), .int .i8 (swapAt z a b 6), .int .i8 (swapAt z a b 7), .int .i8 (swapAt z a b 8)]) (by simp [results, Tryd.results59, go_sem, e0, e1, e2, e3, e4, e5, e6, e7, e8]) rfl ⟨rfl, ?_⟩
  repeat (refine Below.setCell ?_ (by simp) _)
  exact HB2.out
end Go.Eng

namespace Go.Eng
open Go.RowKit Go.Proofs Go.Proofs.YtjcmalmcijpnnaaDoor

/-- The numbers of a list, as far as the k-th one. -/
def upK (zs : List Int) (k : Nat) : Nat → Int := fun i => if i < k then zs.getD i 0 else 0
theorem i8_in {x : Int} (h0 : 0 ≤ x) (h1 : x < 100) : IntKind.i8.wrap x = x := by
  simp [IntKind.wrap, IntKind.bits, IntKind.signed]
  omega

set_option maxRecDepth 100000 in
set_option maxHeartbeats 8000000 in
/-- **'of' of the program.** -/
theorem of_calls (w : World) (v : Value) (zs : List Int) (hv : IntsAt w v zs) (hl : zs.length ≤ 9) (hz : ∀ x ∈ zs, 0 ≤ x ∧ x < 100) :
    CallsIn Fence.wide 0 Tryd.prog 57 #[v] w fun e w' => e = .returned (.agg (pos9 fun i => zs.getD i 0)) ∧ Below w.heap.size w w' := by
  obtain ⟨o, cap, rfl, HV⟩ : ∃ o cap, v = .slice o zs.length cap ∧ Hid (0 < zs.length → ∃ a : Addr, o = some a ∧ a.block < w.heap.size ∧ ∀ i, i < zs.length → w.cell? (a.add i) = some (.int .i64 (zs.getD i 0))) := by
    rcases hv with ⟨rfl, rfl⟩ | ⟨a, cap, rfl, hcap, hl2, ha, hc⟩
    · exact ⟨none, 0, rfl, fun h => by simp at h⟩
    · exact ⟨some a, cap, rfl, fun h0 => ⟨a, rfl, ha h0, hc⟩⟩
  have HZ : Hid (∀ i, i < zs.length → 0 ≤ zs.getD i 0 ∧ zs.getD i 0 < 100) := fun i hi => by
    rw [List.getD_eq_getElem?_getD, List.getElem?_eq_getElem hi]
    exact hz _ (List.getElem_mem hi)
  clear hv hz
  have HA1 : Hid (ArrAt ((w.alloc (.cells zero9 83)).alloc (.cells zero9 83)) w.heap.size 9 (i8Cell fun _ => 0)) :=
    (by rw [zero83]; exact ArrAt.new w _ _ fun i hi => pos9_at _ hi : ArrAt (w.alloc (.cells zero9 83)) w.heap.size 9 (i8Cell fun _ => 0)).alloc (by simp) _
  have HZ1 : Hid (ArrAt ((w.alloc (.cells zero9 83)).alloc (.cells zero9 83)) (w.heap.size + 1) 9 (i8Cell (upK zs 0))) := by
    have e : w.heap.size + 1 = (w.alloc (.cells zero9 83)).heap.size := by simp
    rw [e, zero83]
    exact ArrAt.new _ _ _ fun i hi => by rw [pos9_at _ hi]; unfold i8Cell upK; rfl
  have HB1 : Hid (Below w.heap.size w ((w.alloc (.cells zero9 83)).alloc (.cells zero9 83))) := ((Below.refl _ _).alloc (Nat.le_refl _) _).alloc (by simp) _
  obtain ⟨W1, hW1⟩ : ∃ W1, W1 = (w.alloc (.cells zero9 83)).alloc (.cells zero9 83) := ⟨_, rfl⟩
  rw [← hW1] at HA1 HZ1 HB1
  have HW1 := Hid.intro hW1
  clear hW1
  unfold zero9 at HW1
  refine callsIn_of_wp Tryd.func57 rfl trivial ?_ rfl
  simp only [Tryd.ntmps57, List.size_toArray, List.length_cons, List.length_nil, Nat.reduceAdd, Nat.reduceSub, Array.replicate_succ, Array.replicate_zero, List.push_toArray, List.append_toArray, List.nil_append, List.cons_append]
  gi_wp2
  rw [← HW1.out]
  gi_loopw [8] (fun i wr => ∃ k : Nat, k ≤ zs.length ∧ i = .int .i64 (k : Int) ∧ Hid (Below w.heap.size w wr) ∧ Hid (ArrAt wr w.heap.size 9 (i8Cell fun _ => 0)) ∧ Hid (ArrAt wr (w.heap.size + 1) 9 (i8Cell (upK zs k)))) (fun i _ => zs.length - (intOf i).toNat)
  case atStart => exact ⟨0, by omega, rfl, HB1.out, HA1.out, HZ1.out⟩
  case round =>
    obtain ⟨k, hk, rfl, HB, HA, HR⟩ := hrel
    clear HB1 HA1 HZ1
    by_cases hlt : k < zs.length
    · obtain ⟨a, rfl, ha, hc⟩ := HV.out (by omega)
      have g0 := (HB.out.cell (p := a.add k) (by rw [add_block]; exact ha)).trans (hc k hlt)
      have hx := HZ.out k hlt
      have HN : Hid (∀ j, upK zs (k + 1) j = if j = k then zs.getD k 0 else upK zs k j) := by
        intro j
        unfold upK
        by_cases e : j = k
        · subst e
          rw [if_pos rfl, if_pos (by omega)]
        · rw [if_neg e]
          by_cases e2 : j < k
          · rw [if_pos e2, if_pos (by omega)]
          · rw [if_neg e2, if_neg (by omega)]
      obtain ⟨x, hxe⟩ : ∃ x, zs.getD k 0 = x := ⟨_, rfl⟩
      rw [hxe] at g0 hx HN
      have hw8 := i8_in hx.1 hx.2
      have c0 := (HR.out k (by omega)).1
      have c1 := (HR.out k (by omega)).2
      clear hc hxe
      gi_wp2
      refine ⟨⟨k + 1, by omega, by go_num, HB.out.setCell (p := ⟨w.heap.size + 1, k, none⟩) (by show _ ≤ w.heap.size + 1; omega) _, HA.out.far (p := ⟨w.heap.size + 1, k, none⟩) (by simp) _, ?_⟩, by simp [intOf]; omega⟩
      refine ArrAt.congr (HR.out.set (i := k) (by omega) (.int .i8 x)) fun j _ => ?_
      unfold i8Cell
      rw [HN.out j]
      split <;> rfl
    · have hkl : k = zs.length := by omega
      have HR2 : ArrAt wr (w.heap.size + 1) 9 (i8Cell fun i => zs.getD i 0) := HR.out.congr fun j _ => by
        unfold i8Cell upK
        by_cases e : j < k
        · rw [if_pos e]
        · rw [if_neg e]
          show Value.int .i8 0 = Value.int .i8 (zs.getD j 0)
          rw [List.getD_eq_getElem?_getD, List.getElem?_eq_none (by omega)]; rfl
      obtain ⟨z, hz⟩ : ∃ z : Nat → Int, (fun i => zs.getD i 0) = z := ⟨_, rfl⟩
      rw [hz] at HR2
      obtain ⟨c0, c1, c2, c3, c4, c5, c6, c7, c8⟩ := nine_cells HR2
      obtain ⟨e0, e1, e2, e3, e4, e5, e6, e7, e8⟩ := nine_cells HA.out
      have q0 := (HA.out 0 (by omega)).2
      have q1 := (HA.out 1 (by omega)).2
      have q2 := (HA.out 2 (by omega)).2
      have q3 := (HA.out 3 (by omega)).2
      have q4 := (HA.out 4 (by omega)).2
      have q5 := (HA.out 5 (by omega)).2
      have q6 := (HA.out 6 (by omega)).2
      have q7 := (HA.out 7 (by omega)).2
      have q8 := (HA.out 8 (by omega)).2
      have HZZ := Hid.intro hz
      clear HR2 hz
      gi_wp2
      refine bodyPost_ret (v := .agg #[.int .i8 (z 0), .int .i8 (z 1), .int .i8 (z 2), .int .i8 (z 3), .int .i8 (z 4), .int .i8 (z 5), .int .i8 (z 6), .int .i8 (z 7), .int .i8 (z 8)]) (by simp [results, Tryd.results57, go_sem, e0, e1, e2, e3, e4, e5, e6, e7, e8]) rfl ⟨?_, ?_⟩
      · rw [← HZZ.out]; rfl
      · repeat (refine Below.setCell ?_ (by simp) _)
        exact HB.out

set_option maxRecDepth 100000 in
set_option maxHeartbeats 8000000 in
/-- **'list' of the program.** -/
theorem asList_calls (w : World) (g N : Nat) (hN : 2 ≤ N ∧ N ≤ 9) (hn : w.cell? ⟨g, 0, none⟩ = some (.int .i64 (N : Int))) (hg : g < w.heap.size) (z : Nat → Int) (hz : ∀ i, 0 ≤ z i ∧ z i < 100) :
    CallsIn Fence.wide 0 Tryd.prog 60 #[.pointer (some ⟨g, 0, none⟩), .agg (pos9 z)] w fun e w' => ∃ v', e = .returned v' ∧ IntsAt w' v' ((List.range N).map z) ∧ Below w.heap.size w w' := by
  have HZ := Hid.intro hz
  have HA1 : Hid (ArrAt (w.alloc (.cells (pos9 z) 83)) w.heap.size 9 (i8Cell z)) := ArrAt.new w _ _ fun i hi => pos9_at z hi
  have HB1 : Hid (Below w.heap.size w (w.alloc (.cells (pos9 z) 83))) := (Below.refl _ _).alloc (Nat.le_refl _) _
  obtain ⟨W1, hW1⟩ : ∃ W1, W1 = w.alloc (.cells (pos9 z) 83) := ⟨_, rfl⟩
  have hz1 : W1.heap.size = w.heap.size + 1 := by rw [hW1]; simp
  rw [← hW1] at HA1 HB1
  have HW1 := Hid.intro hW1
  have hsl := fun w' => slice83_run w' w.heap.size N hN.2
  clear hz hW1
  unfold pos9 at HW1 ⊢
  refine callsIn_of_wp Tryd.func60 rfl trivial ?_ rfl
  simp only [Tryd.ntmps60, List.size_toArray, List.length_cons, List.length_nil, Nat.reduceAdd, Nat.reduceSub, Array.replicate_succ, Array.replicate_zero, List.push_toArray, List.append_toArray, List.nil_append, List.cons_append]
  gi_wp2
  rw [← HW1.out]
  clear hsl
  gi_loopw [5, 14] (fun v i wr => ∃ k : Nat, k ≤ N ∧ i = .int .i64 (k : Int) ∧ Hid (Below w.heap.size w wr) ∧ w.heap.size < wr.heap.size ∧ Hid (ArrAt wr w.heap.size 9 (i8Cell z)) ∧ Hid (NumsAt wr (w.heap.size + 1) v ((List.range k).map z))) (fun _ i _ => N - (intOf i).toNat)
  case atStart => exact ⟨0, by omega, rfl, HB1.out, by omega, HA1.out, World.ownsRow_nil _ _ _ _⟩
  case round =>
    obtain ⟨k, hk, rfl, HB, hsz, HA, HR⟩ := hrel
    clear HB1 HA1
    by_cases hlt : k < N
    · obtain ⟨x, hx⟩ : ∃ x, z k = x := ⟨_, rfl⟩
      have hxb := HZ.out k
      rw [hx] at hxb
      have c0 : wr.cell? ⟨w.heap.size, k, none⟩ = some (.int .i8 x) := by rw [(HA.out k (by omega)).1]; unfold i8Cell; rw [hx]
      have hll : ((List.range k).map z).length = k := by simp
      have hnext : (List.range (k + 1)).map z = (List.range k).map z ++ [x] := by rw [List.range_succ, List.map_append]; simp [hx]
      have HNX := Hid.intro hnext
      have HLL := Hid.intro hll
      have hrow := HR.out
      clear hx hnext hll
      gi_wp2_with (gi_at_builtin; refine stop ?_)
      unfold Stop
      have hl2 := HLL.out
      refine wpListIn_append_own _ rfl _ _ 38 rfl (w.heap.size + 1) 3 Tryd.t3 _ 1 8 Go.Eng.u38 t3_info t3_zero t3_size t3_bytes rfl (by decide) _ _ _ rfl (World.ownsRow.alloc hrow _) ⟨wr.heap.size, 0, none⟩ 1 1 [.int .i64 x] rfl rfl (num_new _ _ _) (fun u hu => by simp at hu; subst hu; rfl) (by unfold maxLen; omega) (by omega) (by simp; omega) ?_
      intro v2 w2 hown2 hgrow2 _
      have hk2 : ∀ k', u5.ownBlock = some k' → w.heap.size + 1 ≤ k' ∧ k' < wr.heap.size := World.ownsRow.lt hrow
      have HN2 : NumsAt w2 (w.heap.size + 1) v2 ((List.range (k + 1)).map z) := by
        rw [HNX.out]
        unfold NumsAt
        rw [List.length_append, List.map_append]
        exact hown2
      have HB2 : Below w.heap.size w w2 := (HB.out.alloc (by omega) _).grown hgrow2 (by simp; omega) (fun k' h => by have := hk2 k' h; omega)
      have HA2 : ArrAt w2 w.heap.size 9 (i8Cell z) := (HA.out.alloc hsz _).grown (by simp; omega) hgrow2 (fun k' h => by have := hk2 k' h; omega)
      have hs2 := hgrow2.size
      have HNN := Hid.intro (And.intro HN2 (And.intro HB2 HA2))
      have hs3 : w.heap.size < w2.heap.size := by simp at hs2; omega
      clear hown2 hgrow2 hk2 HN2 HB2 HA2 hs2 hrow
      gi_wp2
      exact ⟨⟨k + 1, by omega, by go_num, HNN.out.2.1, hs3, HNN.out.2.2, HNN.out.1⟩, by simp [intOf]; omega⟩
    · have hkn : k = N := by omega
      subst hkn
      gi_wp2
      all_goals (first | go_returns | go_ret | go_end0)
      exact ⟨_, rfl, HR.out.ints, HB.out⟩
end Go.Eng

namespace Go.Eng
open Go.RowKit Go.Proofs Go.Proofs.YtjcmalmcijpnnaaDoor

set_option maxHeartbeats 4000000 in
/-- **'Hole' of the reference.** -/
theorem refHole_calls (w : World) (a : Addr) (N cap : Nat) (hN : N ≤ 1000) (z : Nat → Int) (hz : ∀ i, i < N → w.cell? (a.add i) = some (.int .i64 (z i))) (h : Nat) (hh : h < N) (h0 : z h = 0) (hne : ∀ i, i < h → z i ≠ 0) :
    CallsIn Fence.wide 0 Tryd.prog 30 #[.slice (some a) N cap] w fun e w' => e = .returned (.int .i64 (h : Int)) ∧ w = w' := by
  have HZ := Hid.intro hz
  have HNE := Hid.intro hne
  have H0 := Hid.intro h0
  clear hz hne h0
  refine callsIn_of_wp Tryd.func30 rfl trivial ?_ rfl
  simp only [Tryd.ntmps30, List.size_toArray, List.length_cons, List.length_nil, Nat.reduceAdd, Nat.reduceSub, Array.replicate_succ, Array.replicate_zero, List.push_toArray, List.append_toArray, List.nil_append, List.cons_append]
  gi_wp2
  gi_loop [3] (fun i => ∃ k : Nat, k ≤ h ∧ i = .int .i64 (k : Int)) (fun i => N - (intOf i).toNat)
  case atStart => exact ⟨0, by omega, rfl⟩
  case round =>
    obtain ⟨k, hk, rfl⟩ := hrel
    have hkN : k < N := by omega
    have c := HZ.out k hkN
    obtain ⟨x, hx⟩ : ∃ x, z k = x := ⟨_, rfl⟩
    rw [hx] at c
    by_cases hkh : k = h
    · subst hkh
      have hx0 : x = 0 := by rw [← hx]; exact H0.out
      subst hx0
      clear hx
      gi_wp2
      all_goals (first | go_returns | go_ret | go_end0)
      exact ⟨rfl, rfl⟩
    · have hx0 : ¬ x = 0 := by rw [← hx]; exact HNE.out k (by omega)
      have hb : (x != (0 : Int)) = true := by simpa using hx0
      clear hx
      gi_wp2
      exact ⟨⟨k + 1, by omega, by go_num⟩, by simp [intOf]; omega⟩

theorem eq75_run (ox oy : Operand) (a b c d : Int) (w : World) :
    (do eqGuard .eql 75 ox oy (.agg #[.int .i64 a, .int .i64 b]) (.agg #[.int .i64 c, .int .i64 d]); binOp .eql 75 (.agg #[.int .i64 a, .int .i64 b]) (.agg #[.int .i64 c, .int .i64 d]) : Sem Value).run Tryd.prog w = .ok (.bool (decide (a = c) && decide (b = d))) w := by
  have hb : binV Tryd.prog .eql 75 (.agg (.cons (.sc (.int .i64 a)) (.cons (.sc (.int .i64 b)) .nil))) (.agg (.cons (.sc (.int .i64 c)) (.cons (.sc (.int .i64 d)) .nil))) = some (.sc (.bool (AV.beq (.cons (.sc (.int .i64 a)) (.cons (.sc (.int .i64 b)) .nil)) (.cons (.sc (.int .i64 c)) (.cons (.sc (.int .i64 d)) .nil))))) := by
    simp [binV, key75, guard75]
  have hx : ∀ (μ : Mu) (a b : Int), VR μ (.agg (.cons (.sc (.int .i64 a)) (.cons (.sc (.int .i64 b)) .nil))) (.agg #[.int .i64 a, .int .i64 b]) := fun μ a b => ⟨#[.int .i64 a, .int .i64 b], rfl, ⟨_, _, rfl, rfl, ⟨_, _, rfl, rfl, rfl⟩⟩⟩
  obtain ⟨z, h1, h2⟩ := bin_sound (ox := ox) (oy := oy) hb (hx (fun _ => none) a b) (hx (fun _ => none) c d) w
  have hz : z = .bool (AV.beq (.cons (.sc (.int .i64 a)) (.cons (.sc (.int .i64 b)) .nil)) (.cons (.sc (.int .i64 c)) (.cons (.sc (.int .i64 d)) .nil))) := h2
  have hq : ∀ a c : Int, beqI a c = decide (a = c) := fun a c => by rw [beqI_iff]; rfl
  rw [h1, hz]
  simp [AV.beq, Sc.beq, beqK, hq]

/-- Whether two places have an edge. -/
def nearQ (lo hi : Int) (q : Nat × Nat) : Bool := decide ((q.1 : Int) = lo) && decide ((q.2 : Int) = hi)
def nearB (qs : List (Nat × Nat)) (a b : Int) : Bool := qs.any (nearQ (min a b) (max a b))

set_option maxRecDepth 10000 in
set_option maxHeartbeats 8000000 in
/-- **'Near' of the reference.** -/
theorem near_calls (w : World) (o : Option Addr) (cap : Nat) (qs : List (Nat × Nat)) (hv : EdgesAt w o qs) (hl : qs.length ≤ 1000) (a b : Int) :
    CallsIn Fence.wide 0 Tryd.prog 29 #[.slice o qs.length cap, .int .i64 a, .int .i64 b] w fun e w' => e = .returned (.bool (nearB qs a b)) ∧ w = w' := by
  have HV := Hid.intro hv
  clear hv
  obtain ⟨lo, hlo⟩ : ∃ lo, min a b = lo := ⟨_, rfl⟩
  obtain ⟨hi, hhi⟩ : ∃ hi, max a b = hi := ⟨_, rfl⟩
  have HN : Hid (nearB qs a b = qs.any (nearQ lo hi)) := by unfold nearB; rw [hlo, hhi]; rfl
  have HLO := Hid.intro hlo
  have HHI := Hid.intro hhi
  refine callsIn_of_wp Tryd.func29 rfl trivial ?_ rfl
  simp only [Tryd.ntmps29, List.size_toArray, List.length_cons, List.length_nil, Nat.reduceAdd, Nat.reduceSub, Array.replicate_succ, Array.replicate_zero, List.push_toArray, List.append_toArray, List.nil_append, List.cons_append]
  clear hlo hhi
  gi_wp2
  gi_loop [7] (fun i => ∃ k : Nat, k ≤ qs.length ∧ i = .int .i64 (k : Int) ∧ Hid ((qs.take k).any (nearQ lo hi) = false)) (fun i => qs.length - (intOf i).toNat)
  case atStart => exact ⟨0, by omega, rfl, rfl⟩
  case round =>
    obtain ⟨k, hk, rfl, HK⟩ := hrel
    by_cases hlt : k < qs.length
    · obtain ⟨ad, rfl, had, hc⟩ := HV.out (by omega)
      have g0 := (hc k hlt).1
      have g1 := (hc k hlt).2
      rw [← add_add_one] at g1
      have hget : qs.getD k (0, 0) = qs[k] := by rw [List.getD_eq_getElem?_getD, List.getElem?_eq_getElem hlt]; rfl
      have hany : (qs.take (k + 1)).any (nearQ lo hi) = ((qs.take k).any (nearQ lo hi) || nearQ lo hi (qs.getD k (0, 0))) := by
        rw [List.take_succ_eq_append_getElem hlt, List.any_append, hget]; simp
      obtain ⟨x, hxe⟩ : ∃ x, (qs.getD k (0, 0)).1 = x := ⟨_, rfl⟩
      obtain ⟨y, hye⟩ : ∃ y, (qs.getD k (0, 0)).2 = y := ⟨_, rfl⟩
      rw [hxe] at g0
      rw [hye] at g1
      have hq : nearQ lo hi (qs.getD k (0, 0)) = (decide ((x : Int) = lo) && decide ((y : Int) = hi)) := by unfold nearQ; rw [hxe, hye]
      have hall : qs.any (nearQ lo hi) = true ∨ nearQ lo hi (qs.getD k (0, 0)) = false := by
        cases hb : nearQ lo hi (qs.getD k (0, 0)) with
        | false => exact .inr rfl
        | true => exact .inl (List.any_eq_true.2 ⟨qs[k], List.getElem_mem hlt, by rw [← hget]; exact hb⟩)
      have HANY := Hid.intro hany
      have HQ := Hid.intro hq
      have HALL := Hid.intro hall
      have HRUN : Hid (∀ p q, min a b = p → max a b = q → (do eqGuard .eql 75 (.tmp 17) (.tmp 24) (.agg #[.int .i64 (x : Int), .int .i64 (y : Int)]) (.agg #[.int .i64 p, .int .i64 q]); binOp .eql 75 (.agg #[.int .i64 (x : Int), .int .i64 (y : Int)]) (.agg #[.int .i64 p, .int .i64 q]) : Sem Value).run Tryd.prog w = .ok (.bool (decide ((x : Int) = lo) && decide ((y : Int) = hi))) w) := by
        intro p q hp hq'
        rw [eq75_run, ← HLO.out, ← HHI.out, hp, hq']
      clear hc hget hany hxe hye hq hall
      rcases (show a ≤ b ∨ b < a by omega) with hab | hab
      all_goals
        gi_wp2_with (refine wpListIn_bin_run _ rfl .eql 75 _ (.tmp 17) (.tmp 24) rfl rfl rfl (HRUN.out _ _ (by omega) (by omega)) ?_)
        all_goals first
          | (refine ⟨⟨k + 1, by omega, by go_num, ?_⟩, by simp [intOf]; omega⟩
             rw [HANY.out, HK.out, HQ.out]
             have h : ¬ (x : Int) = lo ∨ ¬ (y : Int) = hi := by assumption
             rcases h with h | h
             · rw [decide_eq_false h]; rfl
             · rw [decide_eq_false h, Bool.and_false]; rfl)
          | ((first | go_returns | go_ret | go_end0)
             have h : (x : Int) = lo ∧ (y : Int) = hi := by assumption
             have ht : nearQ lo hi (qs.getD k (0, 0)) = true := by rw [HQ.out, decide_eq_true h.1, decide_eq_true h.2]; rfl
             have h2 : qs.any (nearQ lo hi) = true := by
               rcases HALL.out with h2 | h2
               · exact h2
               · rw [ht] at h2; cases h2
             exact ⟨by rw [HN.out, h2]; rfl, rfl⟩)
    · gi_wp2
      all_goals (first | go_returns | go_ret | go_end0)
      have hk' : k = qs.length := by omega
      have h := HK.out
      rw [hk', List.take_of_length_le (Nat.le_refl _)] at h
      exact ⟨by rw [HN.out, h]; rfl, rfl⟩
end Go.Eng

namespace Go.Eng
open Go.RowKit Go.Proofs Go.Proofs.YtjcmalmcijpnnaaDoor

/-- Where the hole is. -/
structure HoleAt (z : Nat → Int) (N h : Nat) : Prop where
  lt : h < N
  zero : z h = 0
  first : ∀ i, i < h → z i ≠ 0

theorem IntsAt.of_arr {w : World} {g N cap : Nat} {z : Nat → Int} (h : ArrAt w g N fun i => .int .i64 (z i)) (hN : 0 < N) (hc : N ≤ cap) (hm : N ≤ 1000) : IntsAt w (.slice (some ⟨g, 0, none⟩) N cap) ((List.range N).map z) := by
  have hl : ((List.range N).map z).length = N := by simp
  refine .inr ⟨⟨g, 0, none⟩, cap, by rw [hl], by rw [hl]; exact hc, by rw [hl]; omega, fun _ => h.lt hN, fun i hi => ?_⟩
  rw [hl] at hi
  rw [Addr.add_lit, Nat.zero_add, (h i hi).1]
  simp [List.getD_eq_getElem?_getD, hi]

set_option maxRecDepth 100000 in
set_option maxHeartbeats 8000000 in
/-- **'Moved' of the reference.** -/
theorem refMoved_new (w : World) (a : Addr) (N cap : Nat) (hN : 2 ≤ N ∧ N ≤ 9) (ha : a.block < w.heap.size) (z : Nat → Int) (hz : ∀ i, i < N → w.cell? (a.add i) = some (.int .i64 (z i))) (h : Nat) (hh : HoleAt z N h) (to : Nat) (hto : to < N) :
    CallsIn Fence.wide 0 Tryd.prog 31 #[.slice (some a) N cap, .int .i64 (to : Int)] w fun e w' => ∃ g cap', e = .returned (.slice (some ⟨g, 0, none⟩) N cap') ∧ w.heap.size ≤ g ∧ N ≤ cap' ∧ ArrAt w' g N (fun i => .int .i64 (swapAt z h to i)) ∧ Below w.heap.size w w' := by
  have HZ := Hid.intro hz
  have HH := Hid.intro hh
  have hhN := hh.lt
  clear hz hh
  refine callsIn_of_wp Tryd.func31 rfl trivial ?_ rfl
  simp only [Tryd.ntmps31, List.size_toArray, List.length_cons, List.length_nil, Nat.reduceAdd, Nat.reduceSub, Array.replicate_succ, Array.replicate_zero, List.push_toArray, List.append_toArray, List.nil_append, List.cons_append]
  gi_wp2_with (gi_at_builtin; refine stop ?_)
  unfold Stop
  refine wpListIn_append_own _ rfl _ _ 38 rfl w.heap.size 3 Tryd.t3 _ 1 8 Go.Eng.u38 t3_info t3_zero t3_size t3_bytes rfl (by decide) _ 0 [] rfl (World.ownsRow_nil _ _ _ _) a N cap (((List.range N).map z).map (Value.int .i64)) rfl (by simp) ?_ (nums_one _) (by unfold maxLen; omega) (by omega) (Nat.le_refl _) ?_
  · intro j u hu
    rw [List.getElem?_map, Option.map_eq_some_iff] at hu
    obtain ⟨x, hx, rfl⟩ := hu
    rw [List.getElem?_map, Option.map_eq_some_iff] at hx
    obtain ⟨i, hi, rfl⟩ := hx
    have := List.getElem?_eq_some_iff.1 hi
    obtain ⟨h1, h2⟩ := this
    simp at h1 h2
    subst h2
    exact HZ.out j h1
  · intro v1 w1 hown1 hgrow1 _
    have hB1 : Below w.heap.size w w1 := (Below.refl _ w).grown hgrow1 (Nat.le_refl _) (fun _ h => by cases h)
    obtain ⟨g, cap1, rfl, hcap1, hgw⟩ : ∃ g cap1, v1 = .slice (some ⟨g, 0, none⟩) N cap1 ∧ N ≤ cap1 ∧ w.heap.size ≤ g := by
      rcases hown1.2 with ⟨_, h⟩ | ⟨g, cap1, _, h, h1, _, h3, _⟩
      · omega
      · rw [Nat.zero_add] at h h3; exact ⟨g, cap1, h, h3, h1⟩
    have HA1 : Hid (ArrAt w1 g N fun i => .int .i64 (z i)) := by
      rw [Nat.zero_add] at hown1
      refine ArrAt.of_row hown1 fun i hi => ?_
      simp [hi]
    have HB1 := Hid.intro hB1
    have hz1 : ∀ i, i < N → w1.cell? (a.add i) = some (.int .i64 (z i)) := fun i hi => (hB1.cell (p := a.add i) (by rw [add_block]; exact ha)).trans (HZ.out i hi)
    have HC := Hid.intro (refHole_calls w1 a N cap (by omega) z hz1 h hhN HH.out.zero HH.out.first)
    have ct := hz1 to hto
    have d0 := (HA1.out h hhN).1
    have d1 := (HA1.out h hhN).2
    have e1 := (HA1.out to hto).2
    obtain ⟨vv, e0⟩ : ∃ v, (w1.setCell ⟨g, h, none⟩ (.int .i64 (z to))).cell? ⟨g, to, none⟩ = some v := ⟨_, (HA1.out.set hhN (.int .i64 (z to)) to hto).1⟩
    clear hown1 hgrow1 hB1 hz1
    gi_wp2_with (gi_at_call 30; refine HC.out.mono ?_; rintro e w2 ⟨rfl, rfl⟩)
    all_goals (first | go_returns | go_ret | go_end0)
    refine ⟨g, cap1, rfl, hgw, hcap1, ?_, (HB1.out.setCell (p := ⟨g, h, none⟩) hgw _).setCell (p := ⟨g, to, none⟩) hgw _⟩
    have hA2 := (HA1.out.set hhN (.int .i64 (z to))).set hto (.int .i64 0)
    refine hA2.congr fun j _ => ?_
    unfold swapAt
    have hz0 := HH.out.zero
    by_cases e1 : j = to
    · simp [e1, hz0]
    · by_cases e2 : j = h
      · subst e2
        simp [e1]
      · simp [e1, e2]

/-- **'Moved' of the reference**, as a list. -/
theorem refMoved_calls (w : World) (a : Addr) (N cap : Nat) (hN : 2 ≤ N ∧ N ≤ 9) (ha : a.block < w.heap.size) (z : Nat → Int) (hz : ∀ i, i < N → w.cell? (a.add i) = some (.int .i64 (z i))) (h : Nat) (hh : HoleAt z N h) (to : Nat) (hto : to < N) :
    CallsIn Fence.wide 0 Tryd.prog 31 #[.slice (some a) N cap, .int .i64 (to : Int)] w fun e w' => ∃ v', e = .returned v' ∧ IntsAt w' v' ((List.range N).map (swapAt z h to)) ∧ Below w.heap.size w w' :=
  (refMoved_new w a N cap hN ha z hz h hh to hto).mono fun _ _ ⟨_, _, h1, _, h3, h4, h5⟩ => ⟨_, h1, IntsAt.of_arr h4 (by omega) h3 (by omega), h5⟩
end Go.Eng

namespace Go.Eng
open Go.RowKit Go.Proofs Go.Proofs.YtjcmalmcijpnnaaDoor

/-- A position of N places with the hole at h. -/
structure PosZ (z : Nat → Int) (N h : Nat) : Prop where
  lt : h < N
  zero : z h = 0
  only : ∀ i, i < N → i ≠ h → z i ≠ 0
  small : ∀ i, 0 ≤ z i ∧ z i < 100
theorem PosZ.hole {z : Nat → Int} {N h : Nat} (p : PosZ z N h) : HoleAt z N h := ⟨p.lt, p.zero, fun i hi => p.only i (by have := p.lt; omega) (by omega)⟩
theorem PosZ.move {z : Nat → Int} {N h t : Nat} (p : PosZ z N h) (ht : t < N) : PosZ (swapAt z h t) N t := by
  refine ⟨ht, by unfold swapAt; rw [if_pos rfl]; exact p.zero, fun i hi hne => ?_, fun i => ?_⟩
  · unfold swapAt
    rw [if_neg hne]
    split
    · rename_i e
      subst e
      exact p.only t ht (fun q => hne q.symm)
    · rename_i e
      exact p.only i hi e
  · unfold swapAt
    repeat' split
    all_goals exact p.small _

/-- Moves as long as they can be done. -/
def applyF (qs : List (Nat × Nat)) : (Nat → Int) → Nat → List Int → (Nat → Int) × Nat
  | z, _, [] => (z, 0)
  | z, h, t :: ts => if nearB qs h t = true then ((applyF qs (swapAt z h t.toNat) t.toNat ts).1, (applyF qs (swapAt z h t.toNat) t.toNat ts).2 + 1) else (z, 0)
theorem applyF_yes {qs : List (Nat × Nat)} {z : Nat → Int} {h k : Nat} {ms : List Int} (hk : k < ms.length) (hn : nearB qs h (ms.getD k 0) = true) :
    applyF qs z h (ms.drop k) = ((applyF qs (swapAt z h (ms.getD k 0).toNat) (ms.getD k 0).toNat (ms.drop (k + 1))).1, (applyF qs (swapAt z h (ms.getD k 0).toNat) (ms.getD k 0).toNat (ms.drop (k + 1))).2 + 1) := by
  rw [List.drop_eq_getElem_cons hk]
  have e : ms.getD k 0 = ms[k] := by rw [List.getD_eq_getElem?_getD, List.getElem?_eq_getElem hk]; rfl
  rw [e] at hn ⊢
  show (if nearB qs h ms[k] = true then _ else _) = _
  rw [if_pos hn]
theorem applyF_no {qs : List (Nat × Nat)} {z : Nat → Int} {h k : Nat} {ms : List Int} (hk : k < ms.length) (hn : nearB qs h (ms.getD k 0) = false) : applyF qs z h (ms.drop k) = (z, 0) := by
  rw [List.drop_eq_getElem_cons hk]
  have e : ms.getD k 0 = ms[k] := by rw [List.getD_eq_getElem?_getD, List.getElem?_eq_getElem hk]; rfl
  rw [e] at hn
  show (if nearB qs h ms[k] = true then _ else _) = _
  rw [if_neg (by simp [hn])]
theorem near_lt {qs : List (Nat × Nat)} {N h : Nat} {t : Int} (hq : ∀ q ∈ qs, q.1 < q.2 ∧ q.2 < N) (hn : nearB qs h t = true) : 0 ≤ t ∧ t < N ∧ t ≠ h := by
  unfold nearB at hn
  obtain ⟨q, hm, h1⟩ := List.any_eq_true.1 hn
  unfold nearQ at h1
  simp only [Bool.and_eq_true, decide_eq_true_eq] at h1
  have := hq q hm
  omega

/-- A call has answered a position and a number. -/
def Applied (N : Nat) (r : (Nat → Int) × Nat) (e : Ending) (w' : World) : Prop := ∃ v', e = .returned (.tuple #[v', .int .i64 ((r.2 : Nat) : Int)]) ∧ IntsAt w' v' ((List.range N).map r.1)
theorem IntsAt.of_cells {w : World} {a : Addr} {N cap : Nat} {z : Nat → Int} (h : ∀ i, i < N → w.cell? (a.add i) = some (.int .i64 (z i))) (ha : a.block < w.heap.size) (hc : N ≤ cap) (hm : N ≤ 1000) : IntsAt w (.slice (some a) N cap) ((List.range N).map z) := by
  have hl : ((List.range N).map z).length = N := by simp
  refine .inr ⟨a, cap, by rw [hl], by rw [hl]; exact hc, by rw [hl]; omega, fun _ => ha, fun i hi => ?_⟩
  rw [hl] at hi
  rw [h i hi]
  simp [List.getD_eq_getElem?_getD, hi]
theorem IntsAt.to_cells {w : World} {v : Value} {N : Nat} {z : Nat → Int} (h : IntsAt w v ((List.range N).map z)) (hN : 0 < N) : ∃ a cap, v = .slice (some a) N cap ∧ N ≤ cap ∧ a.block < w.heap.size ∧ ∀ i, i < N → w.cell? (a.add i) = some (.int .i64 (z i)) := by
  have hl : ((List.range N).map z).length = N := by simp
  rcases h with ⟨_, h⟩ | ⟨a, cap, h1, h2, _, h4, h5⟩
  · rw [h] at hl; simp at hl; omega
  · rw [hl] at h1 h2 h4 h5
    refine ⟨a, cap, h1, h2, h4 hN, fun i hi => ?_⟩
    rw [h5 i hi]
    simp [List.getD_eq_getElem?_getD, hi]

set_option maxRecDepth 100000 in
set_option maxHeartbeats 8000000 in
/-- **'Apply' of the reference.** -/
theorem refApply_calls (w : World) (N : Nat) (hN : 2 ≤ N ∧ N ≤ 9) (o : Option Addr) (cap0 : Nat) (qs : List (Nat × Nat)) (hv : EdgesAt w o qs) (hl : qs.length ≤ 1000) (hq : ∀ q ∈ qs, q.1 < q.2 ∧ q.2 < N)
    (a0 : Addr) (cap1 : Nat) (ha0 : a0.block < w.heap.size) (hcap1 : N ≤ cap1) (z0 : Nat → Int) (h0 : Nat) (hz0 : ∀ i, i < N → w.cell? (a0.add i) = some (.int .i64 (z0 i))) (hp0 : PosZ z0 N h0) (vm : Value) (ms : List Int) (hm : IntsAt w vm ms) (hml : ms.length ≤ 1000) :
    CallsIn Fence.wide 0 Tryd.prog 25 #[.int .i64 (N : Int), .slice o qs.length cap0, .slice (some a0) N cap1, vm] w fun e w' => Applied N (applyF qs z0 h0 ms) e w' ∧ Below w.heap.size w w' := by
  obtain ⟨om, capm, rfl, HM⟩ : ∃ om cap, vm = .slice om ms.length cap ∧ Hid (0 < ms.length → ∃ a : Addr, om = some a ∧ a.block < w.heap.size ∧ ∀ i, i < ms.length → w.cell? (a.add i) = some (.int .i64 (ms.getD i 0))) := by
    rcases hm with ⟨rfl, rfl⟩ | ⟨a, cap, rfl, hcap, hl2, ha, hc⟩
    · exact ⟨none, 0, rfl, fun h => by simp at h⟩
    · exact ⟨some a, cap, rfl, fun h0 => ⟨a, rfl, ha h0, hc⟩⟩
  have HV := Hid.intro hv
  have HQ := Hid.intro hq
  have HZ0 := Hid.intro hz0
  have HP0 := Hid.intro hp0
  clear hv hq hz0 hp0 hm
  refine callsIn_of_wp Tryd.func25 rfl trivial ?_ rfl
  simp only [Tryd.ntmps25, List.size_toArray, List.length_cons, List.length_nil, Nat.reduceAdd, Nat.reduceSub, Array.replicate_succ, Array.replicate_zero, List.push_toArray, List.append_toArray, List.nil_append, List.cons_append]
  gi_wp2
  gi_loopw [2, 10] (fun p i wr => ∃ (k : Nat) (z : Nat → Int) (h : Nat) (a : Addr) (cap : Nat), k ≤ ms.length ∧ i = .int .i64 (k : Int) ∧ p = .slice (some a) N cap ∧ N ≤ cap ∧ a.block < wr.heap.size ∧ Hid (∀ i, i < N → wr.cell? (a.add i) = some (.int .i64 (z i))) ∧ Hid (PosZ z N h) ∧ Hid (applyF qs z0 h0 ms = ((applyF qs z h (ms.drop k)).1, (applyF qs z h (ms.drop k)).2 + k)) ∧ Hid (Below w.heap.size w wr)) (fun _ i _ => ms.length - (intOf i).toNat)
  case atStart => exact ⟨0, z0, h0, a0, cap1, by omega, rfl, rfl, hcap1, ha0, HZ0.out, HP0.out, rfl, Below.refl _ _⟩
  case round =>
    obtain ⟨k, z, h, a, cap, hk, rfl, rfl, hN1, ha, HZ, HP, HA, HB⟩ := hrel
    by_cases hlt : k < ms.length
    · obtain ⟨am, rfl, ham, hc⟩ := HM.out (by omega)
      have g0 := (HB.out.cell (p := am.add k) (by rw [add_block]; exact ham)).trans (hc k hlt)
      obtain ⟨t, ht⟩ : ∃ t, ms.getD k 0 = t := ⟨_, rfl⟩
      rw [ht] at g0
      have HT := Hid.intro ht
      have HH : Hid (∀ n, CallsIn Fence.wide 0 Tryd.prog 30 #[.slice (some a) N cap] (wr.drewN n) fun e w' => e = .returned (.int .i64 (h : Int)) ∧ w' = wr.drewN n) := fun n =>
        (refHole_calls (wr.drewN n) a N cap (by omega) z (fun i hi => ((below_drewN (Below.refl _ wr) n : Below wr.heap.size wr (wr.drewN n)).cell (p := a.add i) (by rw [add_block]; exact ha)).trans (HZ.out i hi)) h HP.out.lt HP.out.zero HP.out.hole.first).mono fun _ _ q => ⟨q.1, q.2.symm⟩
      have HNr : Hid (∀ n, CallsIn Fence.wide 0 Tryd.prog 29 #[.slice o qs.length cap0, .int .i64 (h : Int), .int .i64 t] (wr.drewN n) fun e w' => e = .returned (.bool (nearB qs h t)) ∧ w' = wr.drewN n) := fun n =>
        (near_calls (wr.drewN n) o cap0 qs ((HV.out.below HB.out).below (below_drewN (Below.refl _ wr) n)) hl h t).mono fun _ _ q => ⟨q.1, q.2.symm⟩
      clear hc ht
      gi_wp2
      gi_quiet ((first | (gi_at_call 30; refine CallsIn.quiet_of_same (HH.out _)) | (gi_at_call 29; refine CallsIn.quiet_of_same (HNr.out _))))
      cases hnb : nearB qs h t with
      | true =>
        obtain ⟨hb1, hb2, _⟩ := near_lt HQ.out hnb
        obtain ⟨T, hT⟩ : ∃ T : Nat, t = (T : Int) := ⟨t.toNat, by omega⟩
        subst hT
        have hTN : T < N := by omega
        have HAp : Hid (applyF qs z0 h0 ms = ((applyF qs (swapAt z h T) T (ms.drop (k + 1))).1, (applyF qs (swapAt z h T) T (ms.drop (k + 1))).2 + (k + 1))) := by
          have e := applyF_yes (z := z) hlt (by rw [HT.out]; exact hnb)
          rw [HT.out] at e
          have e2 : ((T : Int)).toNat = T := rfl
          rw [e2] at e
          show _ = _
          rw [HA.out, e]
          exact Prod.ext rfl (by show _ + 1 + k = _ + (k + 1); omega)
        have hbn : Below wr.heap.size wr (wr.drewN nq) := below_drewN (Below.refl _ wr) nq
        have HMv := Hid.intro (refMoved_calls (wr.drewN nq) a N cap hN (Nat.lt_of_lt_of_le ha hbn.size) z (fun i hi => (hbn.cell (p := a.add i) (by rw [add_block]; exact ha)).trans (HZ.out i hi)) h HP.out.hole T hTN)
        have HBn : Hid (Below w.heap.size w (wr.drewN nq)) := HB.out.trans (hbn.mono HB.out.size)
        clear hbn hnb hb1 hb2
        gi_wp2_with (gi_at_call 31; refine HMv.out.mono ?_; rintro e w2 ⟨v2, rfl, hi2, hB2⟩; have HI2 := Hid.intro hi2; have HB2 := Hid.intro hB2; clear hi2 hB2)
        obtain ⟨a2, cap2, rfl, hc2, ha2, hz2⟩ := HI2.out.to_cells (by omega)
        exact ⟨⟨k + 1, swapAt z h T, T, a2, cap2, by omega, by go_num, rfl, hc2, ha2, hz2, HP.out.move hTN, HAp.out, HBn.out.trans (HB2.out.mono HBn.out.size)⟩, by simp [intOf]; omega⟩
      | false =>
        have HAp : Hid (applyF qs z0 h0 ms = (z, k)) := by
          have e := applyF_no (z := z) hlt (by rw [HT.out]; exact hnb)
          show _ = _
          rw [HA.out, e]
          exact Prod.ext rfl (by show 0 + k = k; omega)
        clear hnb
        gi_wp2
        all_goals (first | go_returns | go_ret | go_end0)
        have hbn : Below wr.heap.size wr (wr.drewN nq) := below_drewN (Below.refl _ wr) nq
        refine ⟨?_, HB.out.trans (hbn.mono HB.out.size)⟩
        rw [HAp.out]
        exact ⟨_, rfl, (IntsAt.of_cells HZ.out ha hN1 (by omega)).below hbn⟩
    · have hkl : k = ms.length := by omega
      have HAp : Hid (applyF qs z0 h0 ms = (z, k)) := by
        have e : ms.drop k = [] := List.drop_of_length_le (by omega)
        show _ = _
        rw [HA.out, e]
        exact Prod.ext rfl (by show 0 + k = k; omega)
      gi_wp2
      all_goals (first | go_returns | go_ret | go_end0)
      refine ⟨?_, HB.out⟩
      rw [HAp.out, hkl]
      exact ⟨_, rfl, IntsAt.of_cells HZ.out ha hN1 (by omega)⟩
end Go.Eng

namespace Go.Eng
open Go.RowKit Go.Proofs Go.Proofs.YtjcmalmcijpnnaaDoor

theorem near_iff {qs : List (Nat × Nat)} {N h : Nat} {t : Int} (hq : ∀ q ∈ qs, q.1 < q.2 ∧ q.2 < N) : nearB qs h t = true ↔ (0 ≤ t ∧ t < N) ∧ (nxs qs h).testBit t.toNat = true := by
  rw [nxs_bit (fun q hm => (hq q hm).1)]
  constructor
  · intro hn
    have hr := near_lt hq hn
    refine ⟨⟨hr.1, hr.2.1⟩, ?_⟩
    unfold nearB at hn
    obtain ⟨q, hm, h1⟩ := List.any_eq_true.1 hn
    unfold nearQ at h1
    simp only [Bool.and_eq_true, decide_eq_true_eq] at h1
    by_cases hlt : (h : Int) < t
    · left
      have : q = (h, t.toNat) := Prod.ext (by show q.1 = h; omega) (by show q.2 = t.toNat; omega)
      rw [← this]; exact hm
    · right
      have : q = (t.toNat, h) := Prod.ext (by show q.1 = t.toNat; omega) (by show q.2 = h; omega)
      rw [← this]; exact hm
  · rintro ⟨⟨h0, h1⟩, h2⟩
    unfold nearB
    rcases h2 with h2 | h2
    · have := hq _ h2
      refine List.any_eq_true.2 ⟨_, h2, ?_⟩
      unfold nearQ
      simp only [Bool.and_eq_true, decide_eq_true_eq]
      simp at this
      omega
    · have := hq _ h2
      refine List.any_eq_true.2 ⟨_, h2, ?_⟩
      unfold nearQ
      simp only [Bool.and_eq_true, decide_eq_true_eq]
      simp at this
      omega

theorem nine_set {w : World} {g : Nat} {f : Nat → Value} (h : ArrAt w g 9 f) (z : Nat → Int) :
    ArrAt (((((((((w.setCell ⟨g, 0, none⟩ (.int .i8 (z 0))).setCell ⟨g, 1, none⟩ (.int .i8 (z 1))).setCell ⟨g, 2, none⟩ (.int .i8 (z 2))).setCell ⟨g, 3, none⟩ (.int .i8 (z 3))).setCell ⟨g, 4, none⟩ (.int .i8 (z 4))).setCell ⟨g, 5, none⟩ (.int .i8 (z 5))).setCell ⟨g, 6, none⟩ (.int .i8 (z 6))).setCell ⟨g, 7, none⟩ (.int .i8 (z 7))).setCell ⟨g, 8, none⟩ (.int .i8 (z 8))) g 9 (i8Cell z) := by
  refine ((((((((((h.set (i := 0) (by omega) _).set (i := 1) (by omega) _).set (i := 2) (by omega) _).set (i := 3) (by omega) _).set (i := 4) (by omega) _).set (i := 5) (by omega) _).set (i := 6) (by omega) _).set (i := 7) (by omega) _).set (i := 8) (by omega) _).congr fun j hj => ?_)
  have : j = 0 ∨ j = 1 ∨ j = 2 ∨ j = 3 ∨ j = 4 ∨ j = 5 ∨ j = 6 ∨ j = 7 ∨ j = 8 := by omega
  rcases this with rfl | rfl | rfl | rfl | rfl | rfl | rfl | rfl | rfl <;> rfl

theorem nine_below {w0 w : World} {g : Nat} (h : Below g w0 w) (z : Nat → Int) :
    Below g w0 (((((((((w.setCell ⟨g, 0, none⟩ (.int .i8 (z 0))).setCell ⟨g, 1, none⟩ (.int .i8 (z 1))).setCell ⟨g, 2, none⟩ (.int .i8 (z 2))).setCell ⟨g, 3, none⟩ (.int .i8 (z 3))).setCell ⟨g, 4, none⟩ (.int .i8 (z 4))).setCell ⟨g, 5, none⟩ (.int .i8 (z 5))).setCell ⟨g, 6, none⟩ (.int .i8 (z 6))).setCell ⟨g, 7, none⟩ (.int .i8 (z 7))).setCell ⟨g, 8, none⟩ (.int .i8 (z 8))) :=
  ((((((((h.setCell (p := ⟨g, 0, none⟩) (Nat.le_refl _) _).setCell (p := ⟨g, 1, none⟩) (Nat.le_refl _) _).setCell (p := ⟨g, 2, none⟩) (Nat.le_refl _) _).setCell (p := ⟨g, 3, none⟩) (Nat.le_refl _) _).setCell (p := ⟨g, 4, none⟩) (Nat.le_refl _) _).setCell (p := ⟨g, 5, none⟩) (Nat.le_refl _) _).setCell (p := ⟨g, 6, none⟩) (Nat.le_refl _) _).setCell (p := ⟨g, 7, none⟩) (Nat.le_refl _) _).setCell (p := ⟨g, 8, none⟩) (Nat.le_refl _) _

/-- A call has answered a position, a number and no error. -/
def AppliedOK (N : Nat) (r : (Nat → Int) × Nat) (e : Ending) (w' : World) : Prop := ∃ v', e = .returned (.tuple #[v', .int .i64 ((r.2 : Nat) : Int), .int .i64 0]) ∧ IntsAt w' v' ((List.range N).map r.1)

set_option maxRecDepth 100000 in
set_option maxHeartbeats 16000000 in
/-- **'Apply' of the program.** -/
theorem apply_calls (w : World) (N : Nat) (hN : 2 ≤ N ∧ N ≤ 9) (v : Value) (ps : List (Int × Int)) (hv : PairsAt w v ps) (hl : ps.length ≤ 1000) (hb : IsBoard N ps)
    (vp : Value) (zs : List Int) (hp : IntsAt w vp zs) (hpos : IsPos (N : Int) zs) (h0 : Nat) (hp0 : PosZ (fun i => zs.getD i 0) N h0) (vm : Value) (ms : List Int) (hm : IntsAt w vm ms) (hml : ms.length ≤ 1000) :
    CallsIn Fence.wide 0 Tryd.prog 33 #[.int .i64 (N : Int), v, vp, vm] w fun e w' => AppliedOK N (applyF (nats ps) (fun i => zs.getD i 0) h0 ms) e w' ∧ Below w.heap.size w w' := by
  obtain ⟨op, cp, rfl⟩ := hp.form
  have hzl : zs.length = N := by have := hpos.2.1; omega
  obtain ⟨om, capm, rfl, HM⟩ : ∃ om cap, vm = .slice om ms.length cap ∧ Hid (0 < ms.length → ∃ a : Addr, om = some a ∧ a.block < w.heap.size ∧ ∀ i, i < ms.length → w.cell? (a.add i) = some (.int .i64 (ms.getD i 0))) := by
    rcases hm with ⟨rfl, rfl⟩ | ⟨a, cap, rfl, hcap, hl2, ha, hc⟩
    · exact ⟨none, 0, rfl, fun h => by simp at h⟩
    · exact ⟨some a, cap, rfl, fun h0 => ⟨a, rfl, ha h0, hc⟩⟩
  have HZL := Hid.intro hzl
  have HQ := Hid.intro (nats_mem hb.1)
  have HP0 := Hid.intro hp0
  have HE : Hid (AllErr N ps 1 (fun _ => zs) 0) := .inr (.inr ⟨.inr (.inr ⟨by omega, by simpa using hb, rfl⟩), fun _ _ => hpos, rfl⟩)
  have HB1 : Below w.heap.size w (w.alloc (.cells #[.slice op zs.length cp] 38)) := (Below.refl _ _).alloc (Nat.le_refl _) _
  have HO : Hid (CallsIn Fence.wide 0 Tryd.prog 55 #[.int .i64 (N : Int), v, .slice (some ⟨w.heap.size, 0, none⟩) 1 1] (w.alloc (.cells #[.slice op zs.length cp] 38)) fun e w' => (∃ g, e = .returned (.tuple #[.pointer (some ⟨g, 0, none⟩), .int .i64 0]) ∧ ArrAt w' g 10 (boardCell N (nxs (nats ps)))) ∧ Below w.heap.size w w') := by
    refine (openAll_calls _ N v ps (hv.below HB1) hl ⟨w.heap.size, 0, none⟩ 1 1 (by omega) (by simp) (fun _ => .slice op zs.length cp) (fun _ => zs) ?_ (fun _ _ => hp.below HB1)).mono ?_
    · intro i hi
      have : i = 0 := by omega
      subst this
      exact World.cell?_alloc_new _ _ _ _
    · rintro e w' ⟨hB, ⟨c, hc, h, rfl⟩ | ⟨h, g, rfl, hg, hA⟩⟩
      · exact absurd (h.unique HE.out) hc
      · exact ⟨⟨g, rfl, by simpa using hA⟩, HB1.trans (hB.mono (by simp))⟩
  have HOf : Hid (∀ w', Below w.heap.size w w' → CallsIn Fence.wide 0 Tryd.prog 57 #[.slice op zs.length cp] w' fun e w'' => e = .returned (.agg (pos9 fun i => zs.getD i 0)) ∧ Below w'.heap.size w' w'') := fun w' hw =>
    of_calls w' _ zs (hp.below hw) (by omega) (fun x hx => by have := hpos.2.2.1 x hx; omega)
  obtain ⟨z0, hz0⟩ : ∃ z0 : Nat → Int, (fun i => zs.getD i 0) = z0 := ⟨_, rfl⟩
  rw [hz0] at HP0 HOf ⊢
  clear hv hl hb hp hpos hp0 hm HB1 HE hz0 hzl
  unfold pos9 at HOf
  refine callsIn_of_wp Tryd.func33 rfl trivial ?_ rfl
  simp only [Tryd.ntmps33, List.size_toArray, List.length_cons, List.length_nil, Nat.reduceAdd, Nat.reduceSub, Array.replicate_succ, Array.replicate_zero, List.push_toArray, List.append_toArray, List.nil_append, List.cons_append]
  gi_wp2_with (first
    | (gi_at_call 55; refine HO.out.mono ?_; rintro e w1 ⟨⟨g, rfl, hA⟩, hB⟩; have HB := Hid.intro hB; have HBA := Hid.intro hA; clear hB hA)
    | (gi_at_call 57; refine (HOf.out _ HB.out).mono ?_; rintro e w2 ⟨rfl, hB2⟩; have HB2 := Hid.intro hB2; clear hB2))
  have HAG : Hid (ArrAt w2 g 10 (boardCell N (nxs (nats ps)))) := HBA.out.below (HBA.out.lt (by omega)) HB2.out
  have hg2 : g < w2.heap.size := HAG.out.lt (by omega)
  have HBW : Hid (Below w.heap.size w w2) := HB.out.trans (HB2.out.mono HB.out.size)
  clear HO HOf HB HBA HB2
  obtain ⟨G, hG⟩ : ∃ G, w2.heap.size = G := ⟨_, rfl⟩
  have HA0 : Hid (ArrAt (w2.alloc (.cells (pos9 z0) 83)) G 9 (i8Cell z0)) := by rw [← hG]; exact ArrAt.new w2 _ _ fun i hi => pos9_at z0 hi
  have HB0 : Hid (Below G w2 (w2.alloc (.cells (pos9 z0) 83))) := by rw [← hG]; exact (Below.refl _ _).alloc (Nat.le_refl _) _
  rw [hG] at hg2
  have HGG := Hid.intro hG
  try rw [hG]
  clear hG
  unfold pos9 at HA0 HB0
  gi_loopw [14, 33] (fun d i wr => ∃ (k : Nat) (z : Nat → Int) (h : Nat), k ≤ ms.length ∧ i = .int .i64 (k : Int) ∧ d = .int .i64 (k : Int) ∧ Hid (ArrAt wr G 9 (i8Cell z)) ∧ Hid (PosZ z N h) ∧ Hid (applyF (nats ps) z0 h0 ms = ((applyF (nats ps) z h (ms.drop k)).1, (applyF (nats ps) z h (ms.drop k)).2 + k)) ∧ Hid (Below G w2 wr)) (fun _ i _ => ms.length - (intOf i).toNat)
  case atStart => exact ⟨0, z0, h0, by omega, rfl, rfl, HA0.out, HP0.out, rfl, HB0.out⟩
  case round =>
    obtain ⟨k, z, h, hk, rfl, rfl, HA, HP, HE, HB⟩ := hrel
    have HBG : Hid (Below G w2 wr) := HB
    have hGw : G ≤ wr.heap.size := HGG.out ▸ HB.out.size
    clear HA0 HB0
    have hn0 : wr.cell? ⟨g, 0, none⟩ = some (.int .i64 (N : Int)) := (HB.out.cell (p := ⟨g, 0, none⟩) hg2).trans (HAG.out 0 (by omega)).1
    have hgr : g < wr.heap.size := ((HAG.out.below hg2 HB.out).lt (by omega))
    have HLst : Hid (∀ w', Below wr.heap.size wr w' → CallsIn Fence.wide 0 Tryd.prog 60 #[.pointer (some ⟨g, 0, none⟩), .agg (pos9 z)] w' fun e w'' => (∃ v', e = .returned v' ∧ IntsAt w'' v' ((List.range N).map z)) ∧ Below wr.heap.size wr w'') := fun w' hw =>
      (asList_calls w' g N hN ((hw.cell (p := ⟨g, 0, none⟩) hgr).trans hn0) (Nat.lt_of_lt_of_le hgr hw.size) z HP.out.small).mono fun _ _ ⟨v', a, b, c⟩ => ⟨⟨v', a, b⟩, hw.trans (c.mono hw.size)⟩
    have HHo := Hid.intro (hole_calls wr g N hN hn0 hgr z h HP.out.lt HP.out.zero HP.out.hole.first)
    obtain ⟨c0, c1, c2, c3, c4, c5, c6, c7, c8⟩ := nine_cells HA.out
    have hGr : G < wr.heap.size := HA.out.lt (by omega)
    unfold pos9 at HHo HLst
    by_cases hlt : k < ms.length
    · obtain ⟨am, rfl, ham, hc⟩ := HM.out (by omega)
      have g0 := (HB.out.cell (p := am.add k) (by rw [add_block]; exact Nat.lt_of_lt_of_le ham (HGG.out ▸ HBW.out.size))).trans ((HBW.out.cell (p := am.add k) (by rw [add_block]; exact ham)).trans (hc k hlt))
      obtain ⟨t, ht⟩ : ∃ t, ms.getD k 0 = t := ⟨_, rfl⟩
      rw [ht] at g0
      have HT := Hid.intro ht
      obtain ⟨O, hO⟩ : ∃ O, nxs (nats ps) h = O := ⟨_, rfl⟩
      have hO9 : O < 512 := by rw [← hO]; exact nxs_lt (fun q hm => by have := HQ.out q hm; omega) h
      have hgO : wr.cell? ⟨g, 1 + h, none⟩ = some (.int .i64 ((O : Nat) : Int)) := by
        have := (HB.out.cell (p := ⟨g, 1 + h, none⟩) hg2).trans (HAG.out.board.next h (by have := HP.out.lt; omega))
        rw [hO] at this
        exact this
      have hh9 : h < 9 := by have := HP.out.lt; omega
      have hcase : ((t < 0 ∨ (N : Int) ≤ t) ∧ Hid (nearB (nats ps) h t = false)) ∨ ((∃ T : Nat, t = (T : Int) ∧ T < N ∧ O.testBit T = false) ∧ Hid (nearB (nats ps) h t = false)) ∨ ((∃ T : Nat, t = (T : Int) ∧ T < N ∧ O.testBit T = true) ∧ Hid (nearB (nats ps) h t = true)) := by
        have hni := near_iff (h := h) (t := t) HQ.out
        rw [hO] at hni
        by_cases h1 : t < 0 ∨ (N : Int) ≤ t
        · refine .inl ⟨h1, ?_⟩
          cases hb : nearB (nats ps) h t with
          | false => rfl
          | true => have := hni.1 hb; omega
        · have h2 : t = ((t.toNat : Nat) : Int) := by omega
          cases hb : O.testBit t.toNat with
          | false =>
            refine .inr (.inl ⟨⟨t.toNat, h2, by omega, hb⟩, ?_⟩)
            cases hb2 : nearB (nats ps) h t with
            | false => rfl
            | true => have := (hni.1 hb2).2; rw [hb] at this; cases this
          | true => exact .inr (.inr ⟨⟨t.toNat, h2, by omega, hb⟩, hni.2 ⟨by omega, hb⟩⟩)
      have HCO := Hid.intro hgO
      clear hc ht hO hgO c0 c1 c2 c3 c4 c5 c6 c7 c8
      have HLI := Hid.intro hlt
      rcases hcase with ⟨h1, HNB⟩ | ⟨⟨T, rfl, hTN, hbit⟩, HNB⟩ | ⟨⟨T, rfl, hTN, hbit⟩, HNB⟩
      · have HAp : Hid (applyF (nats ps) z0 h0 ms = (z, k)) := by
          have e := applyF_no (z := z) hlt (by rw [HT.out]; exact HNB.out)
          show _ = _
          rw [HE.out, e]
          exact Prod.ext rfl (by show 0 + k = k; omega)
        obtain ⟨c0, c1, c2, c3, c4, c5, c6, c7, c8⟩ := nine_cells HA.out
        rcases h1 with h1 | h1
        all_goals
          gi_wp2_with (first
            | (gi_at_call 58; refine HHo.out.mono ?_; rintro e w3 ⟨rfl, hB3⟩; have HB3 := Hid.intro hB3; obtain ⟨d0, d1, d2, d3, d4, d5, d6, d7, d8⟩ := nine_cells (HA.out.below hGr hB3); clear hB3)
            | (gi_at_call 60; refine (HLst.out _ HB3.out).mono ?_; rintro e w4 ⟨⟨v4, rfl, hi4⟩, hB4⟩; have HI4 := Hid.intro hi4; have HB4 := Hid.intro hB4; clear hi4 hB4))
          all_goals (first | go_returns | go_ret | go_end0)
          refine ⟨?_, HBW.out.trans (HBG.out.trans (HB4.out.mono hGw) |>.mono (HGG.out ▸ HBW.out.size))⟩
          rw [HAp.out]
          exact ⟨_, rfl, HI4.out⟩
      · have HAp : Hid (applyF (nats ps) z0 h0 ms = (z, k)) := by
          have e := applyF_no (z := z) hlt (by rw [HT.out]; exact HNB.out)
          show _ = _
          rw [HE.out, e]
          exact Prod.ext rfl (by show 0 + k = k; omega)
        obtain ⟨c0, c1, c2, c3, c4, c5, c6, c7, c8⟩ := nine_cells HA.out
        have hb1 := own_bit1 hO9 (show T < 9 by omega)
        rw [hbit] at hb1
        gi_wp2_with (first
          | (gi_at_call 58; refine HHo.out.mono ?_; rintro e w3 ⟨rfl, hB3⟩; have HB3 := Hid.intro hB3; have hO3 := (hB3.cell (p := ⟨g, 1 + h, none⟩) hgr).trans HCO.out; obtain ⟨d0, d1, d2, d3, d4, d5, d6, d7, d8⟩ := nine_cells (HA.out.below hGr hB3); clear hB3)
          | (gi_at_call 60; refine (HLst.out _ HB3.out).mono ?_; rintro e w4 ⟨⟨v4, rfl, hi4⟩, hB4⟩; have HI4 := Hid.intro hi4; have HB4 := Hid.intro hB4; clear hi4 hB4))
        all_goals (first | go_returns | go_ret | go_end0)
        refine ⟨?_, HBW.out.trans (HBG.out.trans (HB4.out.mono hGw) |>.mono (HGG.out ▸ HBW.out.size))⟩
        rw [HAp.out]
        exact ⟨_, rfl, HI4.out⟩
      · have HAp : Hid (applyF (nats ps) z0 h0 ms = ((applyF (nats ps) (swapAt z h T) T (ms.drop (k + 1))).1, (applyF (nats ps) (swapAt z h T) T (ms.drop (k + 1))).2 + (k + 1))) := by
          have e := applyF_yes (z := z) hlt (by rw [HT.out]; exact HNB.out)
          rw [HT.out] at e
          have e2 : ((T : Int)).toNat = T := rfl
          rw [e2] at e
          show _ = _
          rw [HE.out, e]
          exact Prod.ext rfl (by show _ + 1 + k = _ + (k + 1); omega)
        have HMv : Hid (∀ w', CallsIn Fence.wide 0 Tryd.prog 59 #[.agg (pos9 z), .int .i64 (h : Int), .int .i64 (T : Int)] w' fun e w'' => e = .returned (.agg (pos9 (swapAt z h T))) ∧ Below w'.heap.size w' w'') := fun w' => moved_calls w' z h T hh9 (by omega)
        unfold pos9 at HMv
        obtain ⟨y, hy⟩ : ∃ y, swapAt z h T = y := ⟨_, rfl⟩
        have HPM : Hid (PosZ y N T) := by rw [← hy]; exact HP.out.move hTN
        rw [hy] at HMv HAp
        clear hy
        obtain ⟨c0, c1, c2, c3, c4, c5, c6, c7, c8⟩ := nine_cells HA.out
        have hb1 := own_bit1 hO9 (show T < 9 by omega)
        rw [hbit] at hb1
        gi_wp2_with (first
          | (gi_at_call 58; refine HHo.out.mono ?_; rintro e w3 ⟨rfl, hB3⟩; have HB3 := Hid.intro hB3; have hO3 := (hB3.cell (p := ⟨g, 1 + h, none⟩) hgr).trans HCO.out; have HA3 : Hid (ArrAt w3 G 9 (i8Cell z)) := HA.out.below hGr hB3; obtain ⟨d0, d1, d2, d3, d4, d5, d6, d7, d8⟩ := nine_cells HA3.out; clear hB3)
          | (gi_at_call 59; refine (HMv.out _).mono ?_; clear d0 d1 d2 d3 d4 d5 d6 d7 d8 hO3; rintro e w4 ⟨rfl, hB4⟩; have HB4 := Hid.intro hB4; have HA4 : Hid (ArrAt w4 G 9 (i8Cell z)) := HA3.out.below (HA3.out.lt (by omega)) hB4; obtain ⟨e0, e1, e2, e3, e4, e5, e6, e7, e8⟩ := nine_cells HA4.out; have q0 := (HA4.out 0 (by omega)).2; have q1 := (HA4.out 1 (by omega)).2; have q2 := (HA4.out 2 (by omega)).2; have q3 := (HA4.out 3 (by omega)).2; have q4 := (HA4.out 4 (by omega)).2; have q5 := (HA4.out 5 (by omega)).2; have q6 := (HA4.out 6 (by omega)).2; have q7 := (HA4.out 7 (by omega)).2; have q8 := (HA4.out 8 (by omega)).2; clear hB4))
        have HB24 : Below G w2 w4 := HBG.out.trans ((HB3.out.trans (HB4.out.mono HB3.out.size)).mono hGw)
        have HN1 := Hid.intro (nine_set HA4.out y)
        have HN2 := Hid.intro (nine_below HB24 y)
        exact ⟨⟨k + 1, y, T, by omega, by go_num, by go_num, HN1, HPM, HAp, HN2⟩, by simp [intOf]; omega⟩
    · have hkl : k = ms.length := by omega
      have HAp : Hid (applyF (nats ps) z0 h0 ms = (z, k)) := by
        have e : ms.drop k = [] := List.drop_of_length_le (by omega)
        show _ = _
        rw [HE.out, e]
        exact Prod.ext rfl (by show 0 + k = k; omega)
      gi_wp2_with (gi_at_call 60; refine (HLst.out _ (Below.refl _ _)).mono ?_; rintro e w4 ⟨⟨v4, rfl, hi4⟩, hB4⟩; have HI4 := Hid.intro hi4; have HB4 := Hid.intro hB4; clear hi4 hB4)
      all_goals (first | go_returns | go_ret | go_end0)
      refine ⟨?_, HBW.out.trans (HBG.out.trans (HB4.out.mono hGw) |>.mono (HGG.out ▸ HBW.out.size))⟩
      rw [HAp.out, hkl]
      exact ⟨_, rfl, HI4.out⟩
end Go.Eng

namespace Go.Eng
open Go.RowKit Go.Proofs Go.Proofs.YtjcmalmcijpnnaaDoor

theorem IntsAt.cellsAt {w : World} {v : Value} {zs : List Int} (h : IntsAt w v zs) : ∃ om cap, v = .slice om zs.length cap ∧ (0 < zs.length → ∃ a : Addr, om = some a ∧ a.block < w.heap.size ∧ ∀ i, i < zs.length → w.cell? (a.add i) = some (.int .i64 (zs.getD i 0))) := by
  rcases h with ⟨rfl, rfl⟩ | ⟨a, cap, rfl, hcap, hl2, ha, hc⟩
  · exact ⟨none, 0, rfl, fun h => by simp at h⟩
  · exact ⟨some a, cap, rfl, fun h0 => ⟨a, rfl, ha h0, hc⟩⟩

set_option maxRecDepth 100000 in
set_option maxHeartbeats 8000000 in
/-- **'ints' of the law, at the same numbers.** -/
theorem ints_calls (w : World) (v1 v2 : Value) (zs : List Int) (h1 : IntsAt w v1 zs) (h2 : IntsAt w v2 zs) (hl : zs.length ≤ 1000) :
    CallsIn Fence.wide 0 Tryd.prog 26 #[v1, v2] w fun e w' => e = .returned (.bool true) ∧ Below w.heap.size w w' := by
  obtain ⟨o1, cap1, rfl, c1⟩ := h1.cellsAt
  obtain ⟨o2, cap2, rfl, c2⟩ := h2.cellsAt
  have H1 := Hid.intro c1
  have H2 := Hid.intro c2
  clear h1 h2 c1 c2
  refine callsIn_of_wp Tryd.func26 rfl trivial ?_ rfl
  simp only [Tryd.ntmps26, List.size_toArray, List.length_cons, List.length_nil, Nat.reduceAdd, Nat.reduceSub, Array.replicate_succ, Array.replicate_zero, List.push_toArray, List.append_toArray, List.nil_append, List.cons_append]
  gi_wp2
  gi_loopw [5] (fun i wr => ∃ k : Nat, k ≤ zs.length ∧ i = .int .i64 (k : Int) ∧ Hid (Below w.heap.size w wr)) (fun i _ => zs.length - (intOf i).toNat)
  case atStart => exact ⟨0, by omega, rfl, Below.refl _ _⟩
  case round =>
    obtain ⟨k, hk, rfl, HB⟩ := hrel
    by_cases hlt : k < zs.length
    · obtain ⟨a1, rfl, ha1, hc1⟩ := H1.out (by omega)
      obtain ⟨a2, rfl, ha2, hc2⟩ := H2.out (by omega)
      have g1 := (HB.out.cell (p := a1.add k) (by rw [add_block]; exact ha1)).trans (hc1 k hlt)
      have g2 := (HB.out.cell (p := a2.add k) (by rw [add_block]; exact ha2)).trans (hc2 k hlt)
      obtain ⟨x, hx⟩ : ∃ x, zs.getD k 0 = x := ⟨_, rfl⟩
      rw [hx] at g1 g2
      clear hc1 hc2 hx
      gi_wp2
      gi_region
      gi_wp2
      exact ⟨⟨k + 1, by omega, by go_num, HB.out.drew⟩, by simp [intOf]; omega⟩
    · gi_wp2
      all_goals (first | go_returns | go_ret | go_end0)
      exact ⟨rfl, HB.out⟩
end Go.Eng

namespace Go.Eng
open Go.RowKit Go.Proofs Go.Proofs.YtjcmalmcijpnnaaDoor

theorem PosZ.of {N : Nat} {zs : List Int} (h : IsPos (N : Int) zs) : ∃ h0, PosZ (fun i => zs.getD i 0) N h0 := by
  obtain ⟨hN, hl, hr, hd⟩ := h
  have hl : zs.length = N := by omega
  have hm : (0 : Int) ∈ zs := by
    by_cases hm : (0 : Int) ∈ zs
    · exact hm
    · exfalso
      have q := nodup_sub (m := (List.range (N - 1)).map fun i : Nat => ((i : Int) + 1)) hd (fun x hx => by
        have := hr x hx
        have h0 : x ≠ 0 := fun e => hm (e ▸ hx)
        refine List.mem_map.2 ⟨(x - 1).toNat, List.mem_range.2 (by omega), by omega⟩)
      simp at q
      omega
  obtain ⟨i, hi, e⟩ := List.getElem_of_mem hm
  have hg : ∀ j, (hj : j < zs.length) → zs.getD j 0 = zs[j] := fun j hj => by rw [List.getD_eq_getElem?_getD, List.getElem?_eq_getElem hj]; rfl
  refine ⟨i, by omega, by show zs.getD i 0 = 0; rw [hg i hi]; exact e, fun j hj hne => ?_, fun j => ?_⟩
  · show zs.getD j 0 ≠ 0
    rw [hg j (by omega), ← e]
    intro q
    have hp := List.pairwise_iff_getElem.1 hd
    rcases Nat.lt_trichotomy j i with l | l | l
    · exact hp j i (by omega) hi l q
    · exact hne l
    · exact hp i j hi (by omega) l q.symm
  · show 0 ≤ zs.getD j 0 ∧ zs.getD j 0 < 100
    by_cases hj : j < zs.length
    · rw [hg j hj]
      have := hr _ (List.getElem_mem hj)
      omega
    · rw [List.getD_eq_getElem?_getD, List.getElem?_eq_none (by omega)]
      exact ⟨by decide, by decide⟩

theorem rch_first {R : Nat → Nat → Prop} {a j : Nat} (h : Rch R a j) : j = a ∨ ∃ k, R a k := by
  induction h with
  | start => exact .inl rfl
  | step r e ih =>
    rcases ih with rfl | ih
    · exact .inr ⟨_, e⟩
    · exact .inr ih
theorem rch_last {R : Nat → Nat → Prop} {a j : Nat} (h : Rch R a j) : j = a ∨ ∃ k, R k j := by
  cases h with
  | start => exact .inl rfl
  | step r e => exact .inr ⟨_, e⟩

theorem nearB_adj {qs : List (Nat × Nat)} {h t : Nat} (hq : ∀ q ∈ qs, q.1 < q.2) (e : Adj qs h t) : nearB qs h t = true := by
  unfold nearB
  rcases e with e | e
  · have := hq _ e
    refine List.any_eq_true.2 ⟨_, e, ?_⟩
    unfold nearQ
    simp only [Bool.and_eq_true, decide_eq_true_eq]
    simp at this
    omega
  · have := hq _ e
    refine List.any_eq_true.2 ⟨_, e, ?_⟩
    unfold nearQ
    simp only [Bool.and_eq_true, decide_eq_true_eq]
    simp at this
    omega

/-- A place of a board has a neighbour. -/
theorem near_some {N : Nat} {ps : List (Int × Int)} (hN : 2 ≤ N) (hb : IsBoard N ps) {h : Nat} (hh : h < N) : ∃ j, j < N ∧ nearB (nats ps) h (j : Int) = true := by
  have hm := nats_mem hb.1
  have hlt : ∀ a b, Adj (nats ps) a b → a < N ∧ b < N := by
    rintro a b (h | h)
    · have := hm _ h; simp at this; omega
    · have := hm _ h; simp at this; omega
  have hf : firstOf (-1) = 0 := rfl
  have hL := hb.2
  unfold Linked at hL
  rw [hf] at hL
  have key : ∃ j, Adj (nats ps) h j := by
    by_cases h0 : h = 0
    · subst h0
      rcases rch_first (hL 1 (by omega) (by omega)) with e | ⟨k, e⟩
      · cases e
      · exact ⟨k, e.1⟩
    · rcases rch_last (hL h hh (by omega)) with e | ⟨k, e⟩
      · exact absurd e h0
      · exact ⟨k, e.1.symm⟩
  obtain ⟨j, e⟩ := key
  exact ⟨j, (hlt _ _ e).2, nearB_adj (fun q hq => (hm q hq).1) e⟩
end Go.Eng
