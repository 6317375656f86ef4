/-
  What 'Check', 'openAll' of the program answer; and the functions behind them, where something is wrong.
  Conditions: the pairs' cells and the lists' are known.
-/
import Derived.Test.YtjcmalmcijpnnaaDoorChkL
namespace Go.Eng
open Go.RowKit Go.Proofs Go.Proofs.YtjcmalmcijpnnaaDoor

theorem cut3 {F : Fence} {n : Nat} {P : Program} {Q : Exit → CAct → World → Prop} {s : CAct} {w : World} {a b c d : Code} (h : ∀ z : Code, (a.seq (b.seq (c.seq z))).wpIn F n P Q s w) : (a.seq (b.seq (c.seq d))).wpIn F n P Q s w := h d

set_option maxHeartbeats 4000000 in
/-- **'Check' of the program.** -/
theorem slideCheck_calls (w : World) (n : Int) (v : Value) (ps : List (Int × Int)) (hv : PairsAt w v ps) (hl : ps.length ≤ 1000) :
    CallsIn Fence.wide 0 Tryd.prog 45 #[.int .i64 n, v] w fun e w' => ErrOf n ps e ∧ Below w.heap.size w w' := by
  refine callsIn_of_wp Tryd.func45 rfl trivial ?_ rfl
  simp only [Tryd.ntmps45, List.size_toArray, List.length_cons, List.length_nil, Nat.reduceAdd, Nat.reduceSub, Array.replicate_succ, Array.replicate_zero, List.push_toArray, List.append_toArray, List.nil_append, List.cons_append]
  have HC := Hid.intro (open_calls w n v ps hv hl)
  clear hv hl
  gi_wp2_with (gi_at_call 49; refine HC.out.mono ?_; rintro e w1 ⟨hB, hpost⟩; have HB := Hid.intro hB; clear hB; rcases hpost with ⟨c, hc, herr, rfl⟩ | ⟨herr, g, rfl, hg, hA⟩)
  all_goals (first | go_returns | go_ret | go_end0)
  · exact ⟨⟨c, herr, rfl⟩, HB.out⟩
  · exact ⟨⟨0, herr, rfl⟩, HB.out⟩

/-- What is wrong with a board and positions. -/
def AllErr (n : Int) (ps : List (Int × Int)) (m : Nat) (zs : Nat → List Int) (c : Int) : Prop :=
  (c ≠ 0 ∧ BoardErr n ps c) ∨ (BoardErr n ps 0 ∧ (∃ i, i < m ∧ ¬ IsPos n (zs i)) ∧ c = 1) ∨ (BoardErr n ps 0 ∧ (∀ i, i < m → IsPos n (zs i)) ∧ c = 0)
def AllPost (w : World) (n : Int) (ps : List (Int × Int)) (m : Nat) (zs : Nat → List Int) (e : Ending) (w' : World) : Prop :=
  Below w.heap.size w w' ∧ ((∃ c, c ≠ 0 ∧ AllErr n ps m zs c ∧ e = .returned (.tuple #[.pointer none, .int .i64 c])) ∨
    (AllErr n ps m zs 0 ∧ ∃ g, e = .returned (.tuple #[.pointer (some ⟨g, 0, none⟩), .int .i64 0]) ∧ w.heap.size ≤ g ∧ ArrAt w' g 10 (boardCell n.toNat (nxs (nats ps)))))

set_option maxHeartbeats 4000000 in
/-- **'openAll' of the program.** -/
theorem openAll_calls (w : World) (n : Int) (v : Value) (ps : List (Int × Int)) (hv : PairsAt w v ps) (hl : ps.length ≤ 1000) (a : Addr) (m cap : Nat) (hm : m ≤ 1000) (ha : a.block < w.heap.size) (vs : Nat → Value) (zs : Nat → List Int)
    (hvs : ∀ i, i < m → w.cell? (a.add i) = some (vs i)) (hzs : ∀ i, i < m → IntsAt w (vs i) (zs i)) :
    CallsIn Fence.wide 0 Tryd.prog 55 #[.int .i64 n, v, .slice (some a) m cap] w fun e w' => AllPost w n ps m zs e w' := by
  have HC := Hid.intro (open_calls w n v ps hv hl)
  have HVS := Hid.intro hvs
  have HZS := Hid.intro hzs
  clear hv hl hvs hzs
  refine callsIn_of_wp Tryd.func55 rfl trivial ?_ rfl
  simp only [Tryd.ntmps55, List.size_toArray, List.length_cons, List.length_nil, Nat.reduceAdd, Nat.reduceSub, Array.replicate_succ, Array.replicate_zero, List.push_toArray, List.append_toArray, List.nil_append, List.cons_append]
  gi_wp2_with (gi_at_call 49; refine HC.out.mono ?_; rintro e w1 ⟨hB, hpost⟩; have HB := Hid.intro hB; clear hB; rcases hpost with ⟨c, hc, herr, rfl⟩ | ⟨herr, g, rfl, hg, hA⟩)
  · all_goals (first | go_returns | go_ret | go_end0)
    exact ⟨HB.out, .inl ⟨c, hc, .inl ⟨hc, herr⟩, rfl⟩⟩
  · have HA := Hid.intro hA
    have HG := Hid.intro hg
    have HE := Hid.intro herr
    clear hA hg herr
    gi_loopw [24] (fun i wr => ∃ k : Nat, k ≤ m ∧ i = .int .i64 (k : Int) ∧ Hid (Below w1.heap.size w1 wr) ∧ Hid (∀ i, i < k → IsPos n (zs i))) (fun i _ => m - (intOf i).toNat)
    case atStart => exact ⟨0, by omega, rfl, Below.refl _ _, fun i h => by omega⟩
    case round =>
      obtain ⟨k, hk, rfl, HBk, HP⟩ := hrel
      by_cases hlt : k < m
      · have hall : Hid (Below w.heap.size w wr) := HB.out.trans (HBk.out.mono HB.out.size)
        have hcell : wr.cell? (a.add k) = some (vs k) := (hall.out.cell (by rw [add_block]; exact ha)).trans (HVS.out k hlt)
        have HCP := Hid.intro (checkPosition_calls wr n (vs k) (zs k) ((HZS.out k hlt).below hall.out))
        gi_wp2_with (gi_at_call 46; refine HCP.out.mono ?_; rintro e w2 ⟨hpos, hB2⟩; have HB2 := Hid.intro hB2; clear hB2; rcases hpos with ⟨hpos, rfl⟩ | ⟨hpos, rfl⟩)
        · all_goals (first | go_returns | go_ret | go_end0)
          exact ⟨hall.out.trans (HB2.out.mono hall.out.size), .inl ⟨1, by decide, .inr (.inl ⟨HE.out, ⟨k, hlt, hpos⟩, rfl⟩), rfl⟩⟩
        · refine ⟨⟨k + 1, by omega, by go_num, HBk.out.trans (HB2.out.mono HBk.out.size), fun i hi => ?_⟩, by simp [intOf]; omega⟩
          rcases Nat.lt_or_ge i k with q | q
          · exact HP.out i q
          · have : i = k := by omega
            subst this
            exact Classical.not_not.1 hpos
      · gi_wp2
        all_goals (first | go_returns | go_ret | go_end0)
        exact ⟨HB.out.trans (HBk.out.mono HB.out.size), .inr ⟨.inr (.inr ⟨HE.out, fun i hi => HP.out i (by omega), rfl⟩), g, rfl, HG.out, HA.out.below (HA.out.lt (by omega)) HBk.out⟩⟩

theorem AllErr.unique {n : Int} {ps : List (Int × Int)} {m : Nat} {zs : Nat → List Int} {c d : Int} (h : AllErr n ps m zs c) (k : AllErr n ps m zs d) : c = d := by
  rcases h with ⟨a, b⟩ | ⟨a, ⟨i, hi, b⟩, rfl⟩ | ⟨a, b, rfl⟩ <;> rcases k with ⟨a', b'⟩ | ⟨a', ⟨i', hi', b'⟩, rfl⟩ | ⟨a', b', rfl⟩ <;>
    first | rfl | exact b.unique b' | exact absurd (b.unique a') a | exact absurd (b'.unique a) a' | exact absurd (b' _ hi) b | exact absurd (b _ hi') b'

/-- 'open' where something is wrong. -/
theorem open_err (w : World) (n : Int) (v : Value) (ps : List (Int × Int)) (hv : PairsAt w v ps) (hl : ps.length ≤ 1000) (c : Int) (hc : c ≠ 0) (he : BoardErr n ps c) :
    CallsIn Fence.wide 0 Tryd.prog 49 #[.int .i64 n, v] w fun e w' => e = .returned (.tuple #[.pointer none, .int .i64 c]) ∧ Below w.heap.size w w' := by
  refine (open_calls w n v ps hv hl).mono ?_
  rintro e w' ⟨hB, ⟨d, hd, h, rfl⟩ | ⟨h, _⟩⟩
  · rw [h.unique he]; exact ⟨rfl, hB⟩
  · exact absurd (he.unique h) hc
theorem openAll_err (w : World) (n : Int) (v : Value) (ps : List (Int × Int)) (hv : PairsAt w v ps) (hl : ps.length ≤ 1000) (a : Addr) (m cap : Nat) (hm : m ≤ 1000) (ha : a.block < w.heap.size) (vs : Nat → Value) (zs : Nat → List Int)
    (hvs : ∀ i, i < m → w.cell? (a.add i) = some (vs i)) (hzs : ∀ i, i < m → IntsAt w (vs i) (zs i)) (c : Int) (hc : c ≠ 0) (he : AllErr n ps m zs c) :
    CallsIn Fence.wide 0 Tryd.prog 55 #[.int .i64 n, v, .slice (some a) m cap] w fun e w' => e = .returned (.tuple #[.pointer none, .int .i64 c]) ∧ Below w.heap.size w w' := by
  refine (openAll_calls w n v ps hv hl a m cap hm ha vs zs hvs hzs).mono ?_
  rintro e w' ⟨hB, ⟨d, hd, h, rfl⟩ | ⟨h, _⟩⟩
  · rw [h.unique he]; exact ⟨rfl, hB⟩
  · exact absurd (he.unique h) hc

set_option maxHeartbeats 4000000 in
theorem isWhole_err (w : World) (n : Int) (v : Value) (ps : List (Int × Int)) (hv : PairsAt w v ps) (hl : ps.length ≤ 1000) (c : Int) (hc : c ≠ 0) (he : BoardErr n ps c) :
    CallsIn Fence.wide 0 Tryd.prog 35 #[.int .i64 n, v] w fun e w' => e = .returned (.tuple #[.bool false, .int .i64 c]) ∧ Below w.heap.size w w' := by
  have HC := Hid.intro (open_err w n v ps hv hl c hc he)
  clear hv hl he
  refine callsIn_of_wp Tryd.func35 rfl trivial ?_ rfl
  simp only [Tryd.ntmps35, List.size_toArray, List.length_cons, List.length_nil, Nat.reduceAdd, Nat.reduceSub, Array.replicate_succ, Array.replicate_zero, List.push_toArray, List.append_toArray, List.nil_append, List.cons_append]
  refine cut3 fun z => ?_
  gi_wp2_with (gi_at_call 49; refine HC.out.mono ?_; rintro e w1 ⟨rfl, hB⟩; have HB := Hid.intro hB; clear hB)
  all_goals (first | go_returns | go_ret | go_end0)
  all_goals exact ⟨rfl, HB.out⟩

set_option maxHeartbeats 4000000 in
theorem sides_err (w : World) (n : Int) (v : Value) (ps : List (Int × Int)) (hv : PairsAt w v ps) (hl : ps.length ≤ 1000) (c : Int) (hc : c ≠ 0) (he : BoardErr n ps c) :
    CallsIn Fence.wide 0 Tryd.prog 36 #[.int .i64 n, v] w fun e w' => e = .returned (.tuple #[.int .i64 0, .bool false, .int .i64 c]) ∧ Below w.heap.size w w' := by
  have HC := Hid.intro (open_err w n v ps hv hl c hc he)
  clear hv hl he
  refine callsIn_of_wp Tryd.func36 rfl trivial ?_ rfl
  simp only [Tryd.ntmps36, List.size_toArray, List.length_cons, List.length_nil, Nat.reduceAdd, Nat.reduceSub, Array.replicate_succ, Array.replicate_zero, List.push_toArray, List.append_toArray, List.nil_append, List.cons_append]
  refine cut3 fun z => ?_
  gi_wp2_with (gi_at_call 49; refine HC.out.mono ?_; rintro e w1 ⟨rfl, hB⟩; have HB := Hid.intro hB; clear hB)
  all_goals (first | go_returns | go_ret | go_end0)
  all_goals exact ⟨rfl, HB.out⟩

set_option maxHeartbeats 4000000 in
theorem size_err (w : World) (n : Int) (v : Value) (ps : List (Int × Int)) (hv : PairsAt w v ps) (hl : ps.length ≤ 1000) (c : Int) (hc : c ≠ 0) (he : BoardErr n ps c) :
    CallsIn Fence.wide 0 Tryd.prog 18 #[.int .i64 n, v] w fun e w' => e = .returned (.tuple #[.int .i64 0, .int .i64 c]) ∧ Below w.heap.size w w' := by
  have HC := Hid.intro (open_err w n v ps hv hl c hc he)
  clear hv hl he
  refine callsIn_of_wp Tryd.func18 rfl trivial ?_ rfl
  simp only [Tryd.ntmps18, List.size_toArray, List.length_cons, List.length_nil, Nat.reduceAdd, Nat.reduceSub, Array.replicate_succ, Array.replicate_zero, List.push_toArray, List.append_toArray, List.nil_append, List.cons_append]
  refine cut3 fun z => ?_
  gi_wp2_with (gi_at_call 49; refine HC.out.mono ?_; rintro e w1 ⟨rfl, hB⟩; have HB := Hid.intro hB; clear hB)
  all_goals (first | go_returns | go_ret | go_end0)
  all_goals exact ⟨rfl, HB.out⟩
end Go.Eng
