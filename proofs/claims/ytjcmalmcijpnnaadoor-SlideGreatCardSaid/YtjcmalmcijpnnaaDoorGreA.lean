/-
  Grids of the reference that are boards.
  Conditions: none.
-/
import Derived.Test.YtjcmalmcijpnnaaDoorChkW
import Derived.Test.YtjcmalmcijpnnaaDoorSizL
namespace Go.Eng
open Go.RowKit Go.Proofs Go.Proofs.YtjcmalmcijpnnaaDoor

/-- The edges at one place of a grid of C columns and T places. -/
def gridE (C T i : Nat) : List (Nat × Nat) := (if i % C + 1 < C then [(i, i + 1)] else []) ++ (if i + C < T then [(i, i + C)] else [])
def gridL (C T : Nat) : Nat → List (Nat × Nat)
  | 0 => []
  | k + 1 => gridL C T k ++ gridE C T k
theorem gridL_len (C T : Nat) : ∀ k, (gridL C T k).length ≤ 2 * k
  | 0 => by simp [gridL]
  | k + 1 => by
    have := gridL_len C T k
    have h2 : (gridE C T k).length ≤ 2 := by unfold gridE; split <;> split <;> simp
    simp only [gridL, List.length_append]
    omega
theorem row_more {w wr w2 : World} {v v2 : Value} {l : List (Nat × Nat)} {i j base : Nat} {t : TypeId} (hbase : w.heap.size ≤ base) (hb : Below w.heap.size w wr) (hr : RowAt wr base v l)
    (hown : w2.ownsRow base 75 2 v2 (l.length + 1) (flatV l ++ [.int .i64 (i : Int), .int .i64 (j : Int)]))
    (hgrow : (wr.alloc (.cells #[.int .i64 (i : Int), .int .i64 (j : Int)] t)).grownBy w2 v.ownBlock) : Below w.heap.size w w2 ∧ RowAt w2 base v2 (l ++ [(i, j)]) := by
  have hk : ∀ k, v.ownBlock = some k → base ≤ k ∧ k < wr.heap.size := hr.lt
  have hz := hb.size
  have hsz : (wr.alloc (.cells #[.int .i64 (i : Int), .int .i64 (j : Int)] t)).heap.size = wr.heap.size + 1 := by simp
  refine ⟨(hb.alloc (by omega) _).grown hgrow (by omega) (fun k e => by have := hk k e; omega), ?_⟩
  unfold RowAt
  rw [flatV_app, List.length_append]
  exact hown

set_option maxRecDepth 100000 in
set_option maxHeartbeats 8000000 in
theorem grid_walk (w : World) (R C T : Nat) (hC : 1 ≤ C ∧ C ≤ 9) (hT : T ≤ 9) (hRC : wrap64 ((R : Int) * (C : Int)) = (T : Int)) :
    CallsIn Fence.wide 0 Tryd.prog 14 #[.int .i64 (R : Int), .int .i64 (C : Int)] w fun e w' => ∃ v', e = .returned (.tuple #[.int .i64 (T : Int), v']) ∧ RowAt w' w.heap.size v' (gridL C T T) ∧ Below w.heap.size w w' := by
  refine callsIn_of_wp Tryd.func14 rfl trivial ?_ rfl
  simp only [Tryd.ntmps14, List.size_toArray, List.length_cons, List.length_nil, Nat.reduceAdd, Nat.reduceSub, Array.replicate_succ, Array.replicate_zero, List.push_toArray, List.append_toArray, List.nil_append, List.cons_append]
  gi_wp2
  rw [hRC]
  clear hRC
  gi_loopw [7, 8] (fun v i wr => ∃ k : Nat, k ≤ T ∧ i = .int .i64 (k : Int) ∧ Hid (Below w.heap.size w wr) ∧ Hid (RowAt wr w.heap.size v (gridL C T k))) (fun _ i _ => T - (intOf i).toNat)
  case atStart => exact ⟨0, by omega, rfl, Below.refl _ _, World.ownsRow_nil _ _ _ _⟩
  case round =>
    obtain ⟨k, hk, rfl, HB, HR⟩ := hrel
    by_cases hkT : k < T
    · obtain ⟨m, hm⟩ : ∃ m, k % C = m := ⟨_, rfl⟩
      have hmod : ((k : Int).tmod (C : Int)) = (m : Int) := by rw [← hm]; rfl
      have hmC : m < C := by rw [← hm]; exact Nat.mod_lt _ (by omega)
      have HM := Hid.intro hm
      have hl1 : (gridL C T k).length ≤ 18 := by have := gridL_len C T k; omega
      have hrow : wr.ownsRow w.heap.size 75 2 u7 (gridL C T k).length (flatV (gridL C T k)) := HR.out
      have hz0 := HB.out.size
      clear hm
      have gE : gridL C T (k + 1) = gridL C T k ++ gridE C T k := rfl
      by_cases h1 : m + 1 < C
      · by_cases h2 : k + C < T
        · gi_wp2_with (gi_at_builtin; refine stop ?_)
          unfold Stop
          refine wpListIn_append_own _ rfl _ _ 22 rfl w.heap.size 75 Tryd.t75 _ 2 16 Go.Eng.u22 t75_info t75_zero t75_size t75_bytes rfl (by decide) _ _ _ rfl (hrow.alloc _) ⟨wr.heap.size, 0, none⟩ 1 1 [.int .i64 (k : Int), .int .i64 ((k : Int) + 1)] rfl rfl (pair_new _ _ _ _) (pair_one _ _) (by unfold maxLen; omega) (by omega) (by simp; omega) ?_
          intro v2 w2 hown2 hgrow2 _
          have HSt := Hid.intro (row_more (Nat.le_refl _) HB.out HR.out (j := k + 1) hown2 hgrow2)
          have hz2 : w.heap.size ≤ w2.heap.size := HSt.out.1.size
          clear hown2 hgrow2 hrow
          have hl2 : (gridL C T k ++ [(k, k + 1)]).length ≤ 19 := by simp; omega
          have hrow2 : w2.ownsRow w.heap.size 75 2 v2 (gridL C T k ++ [(k, k + 1)]).length (flatV (gridL C T k ++ [(k, k + 1)])) := HSt.out.2
          gi_wp2_with (gi_at_builtin; refine stop ?_)
          unfold Stop
          refine wpListIn_append_own _ rfl _ _ 22 rfl w.heap.size 75 Tryd.t75 _ 2 16 Go.Eng.u22 t75_info t75_zero t75_size t75_bytes rfl (by decide) _ _ _ rfl (hrow2.alloc _) ⟨w2.heap.size, 0, none⟩ 1 1 [.int .i64 (k : Int), .int .i64 ((k : Int) + (C : Int))] rfl rfl (pair_new _ _ _ _) (pair_one _ _) (by unfold maxLen; omega) (by omega) (by simp; omega) ?_
          intro v3 w3 hown3 hgrow3 _
          have HSt3 := Hid.intro (row_more (Nat.le_refl _) HSt.out.1 HSt.out.2 (j := k + C) hown3 hgrow3)
          clear hown3 hgrow3 hrow2
          gi_wp2
          refine ⟨⟨k + 1, by omega, by go_num, HSt3.out.1, ?_⟩, by simp [intOf]; omega⟩
          have e : gridE C T k = [(k, k + 1)] ++ [(k, k + C)] := by unfold gridE; rw [HM.out, if_pos h1, if_pos h2]
          rw [gE, e, ← List.append_assoc]
          exact HSt3.out.2
        · gi_wp2_with (gi_at_builtin; refine stop ?_)
          unfold Stop
          refine wpListIn_append_own _ rfl _ _ 22 rfl w.heap.size 75 Tryd.t75 _ 2 16 Go.Eng.u22 t75_info t75_zero t75_size t75_bytes rfl (by decide) _ _ _ rfl (hrow.alloc _) ⟨wr.heap.size, 0, none⟩ 1 1 [.int .i64 (k : Int), .int .i64 ((k : Int) + 1)] rfl rfl (pair_new _ _ _ _) (pair_one _ _) (by unfold maxLen; omega) (by omega) (by simp; omega) ?_
          intro v2 w2 hown2 hgrow2 _
          have HSt := Hid.intro (row_more (Nat.le_refl _) HB.out HR.out (j := k + 1) hown2 hgrow2)
          clear hown2 hgrow2 hrow
          gi_wp2
          refine ⟨⟨k + 1, by omega, by go_num, HSt.out.1, ?_⟩, by simp [intOf]; omega⟩
          have e : gridE C T k = [(k, k + 1)] := by unfold gridE; rw [HM.out, if_pos h1, if_neg h2]; rfl
          rw [gE, e]
          exact HSt.out.2
      · by_cases h2 : k + C < T
        · gi_wp2_with (gi_at_builtin; refine stop ?_)
          unfold Stop
          refine wpListIn_append_own _ rfl _ _ 22 rfl w.heap.size 75 Tryd.t75 _ 2 16 Go.Eng.u22 t75_info t75_zero t75_size t75_bytes rfl (by decide) _ _ _ rfl (hrow.alloc _) ⟨wr.heap.size, 0, none⟩ 1 1 [.int .i64 (k : Int), .int .i64 ((k : Int) + (C : Int))] rfl rfl (pair_new _ _ _ _) (pair_one _ _) (by unfold maxLen; omega) (by omega) (by simp; omega) ?_
          intro v2 w2 hown2 hgrow2 _
          have HSt := Hid.intro (row_more (Nat.le_refl _) HB.out HR.out (j := k + C) hown2 hgrow2)
          clear hown2 hgrow2 hrow
          gi_wp2
          refine ⟨⟨k + 1, by omega, by go_num, HSt.out.1, ?_⟩, by simp [intOf]; omega⟩
          have e : gridE C T k = [(k, k + C)] := by unfold gridE; rw [HM.out, if_neg h1, if_pos h2]; rfl
          rw [gE, e]
          exact HSt.out.2
        · gi_wp2
          refine ⟨⟨k + 1, by omega, by go_num, HB.out, ?_⟩, by simp [intOf]; omega⟩
          have e : gridE C T k = [] := by unfold gridE; rw [HM.out, if_neg h1, if_neg h2]; rfl
          rw [gE, e, List.append_nil]
          exact HR.out
    · have hkT2 : k = T := by omega
      subst hkT2
      gi_wp2
      all_goals (first | go_returns | go_ret | go_end0)
      exact ⟨_, rfl, HR.out, HB.out⟩

/-- Whether pairs are the edges of a board, as a test. -/
def gridB (N : Nat) (l : List (Nat × Nat)) : Bool := (l.all fun q => Nat.blt q.1 q.2 && Nat.blt q.2 N) && ((List.range (l.length - 1)).all fun i => Nat.blt (l.getD i (0, 0)).1 (l.getD (i + 1) (0, 0)).1 || (Nat.beq (l.getD i (0, 0)).1 (l.getD (i + 1) (0, 0)).1 && Nat.blt (l.getD i (0, 0)).2 (l.getD (i + 1) (0, 0)).2)) && ((List.range N).all fun i => rounds l (-1) (fun j => j == 0) N i)
theorem gridB_board {N : Nat} {l : List (Nat × Nat)} (hN : 2 ≤ N) (h : gridB N l = true) : IsBoard N (ints l) := by
  unfold gridB at h
  rw [Bool.and_eq_true, Bool.and_eq_true, List.all_eq_true, List.all_eq_true, List.all_eq_true] at h
  obtain ⟨⟨h1, h2⟩, h3⟩ := h
  have hm : ∀ q ∈ l, q.1 < q.2 ∧ q.2 < N := fun q hq => by
    have := h1 q hq
    rw [Bool.and_eq_true, Nat.blt_eq, Nat.blt_eq] at this
    exact this
  refine ⟨fun i hi => ?_, fun i hi _ => ?_⟩
  · rw [ints_len] at hi
    unfold EdgeOK
    rw [ints_fst, ints_snd, ints_fst, ints_snd]
    have e1 : l.getD i (0, 0) = l[i] := by rw [List.getD_eq_getElem?_getD, List.getElem?_eq_getElem hi]; rfl
    have hq := hm _ (List.getElem_mem hi)
    refine ⟨by rw [e1]; omega, fun h0 => ?_⟩
    have h0' : 0 < i := by omega
    have := h2 (i - 1) (List.mem_range.2 (by omega))
    rw [show i - 1 + 1 = i by omega] at this
    rw [Bool.or_eq_true, Bool.and_eq_true, Nat.blt_eq, Nat.blt_eq] at this
    rcases this with this | ⟨g1, g2⟩
    · left; omega
    · right
      have g1 := Nat.eq_of_beq_eq_true g1
      omega
  · rw [nats_ints]
    have law := rounds_law (n := N) (qs := l) (but := -1) (s := 0) (by omega) (fun q hq => by have := hm q hq; omega)
    exact (law i).1 (h3 i (List.mem_range.2 hi))
theorem grid24 : gridB 8 (gridL 4 8 8) = true := by kernel_rfl
theorem grid33 : gridB 9 (gridL 3 9 9) = true := by kernel_rfl
/-- **'Grid' of the reference, where the law asks for it.** -/
theorem grid_is (w : World) (r c : Int) (h : (r = 2 ∧ c = 4) ∨ (r = 3 ∧ c = 3)) : CallsIn Fence.wide 0 Tryd.prog 14 #[.int .i64 r, .int .i64 c] w fun e w' => ∃ (N : Nat) (v' : Value) (qs : List (Int × Int)), (2 ≤ N ∧ N ≤ 9) ∧ e = .returned (.tuple #[.int .i64 (N : Int), v']) ∧ PairsAt w' v' qs ∧ qs.length ≤ 81 ∧ IsBoard N qs ∧ Below w.heap.size w w' := by
  rcases h with ⟨rfl, rfl⟩ | ⟨rfl, rfl⟩
  · refine (grid_walk w 2 4 8 (by omega) (by omega) (by kernel_rfl)).mono ?_
    rintro e w' ⟨v', rfl, hr, hB⟩
    refine ⟨8, v', ints (gridL 4 8 8), by omega, rfl, RowAt.pairs hr, ?_, gridB_board (by omega) grid24, hB⟩
    rw [ints_len]; have := gridL_len 4 8 8; omega
  · refine (grid_walk w 3 3 9 (by omega) (by omega) (by kernel_rfl)).mono ?_
    rintro e w' ⟨v', rfl, hr, hB⟩
    refine ⟨9, v', ints (gridL 3 9 9), by omega, rfl, RowAt.pairs hr, ?_, gridB_board (by omega) grid33, hB⟩
    rw [ints_len]; have := gridL_len 3 9 9; omega
end Go.Eng
