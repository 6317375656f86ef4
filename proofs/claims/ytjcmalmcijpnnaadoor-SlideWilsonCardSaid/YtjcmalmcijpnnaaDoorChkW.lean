/-
  What 'tame' of the law's package makes: a board.
  Conditions: the pairs' cells are known.
-/
import Derived.Test.YtjcmalmcijpnnaaDoorChkV
import Derived.Test.YtjcmalmcijpnnaaDoorChkL
import Derived.Laws.OwnMore
namespace Go.Eng
open Go.RowKit Go.Proofs Go.Proofs.YtjcmalmcijpnnaaDoor

theorem u64_range (x : Int) : 0 ≤ IntKind.u64.wrap x := by simp [IntKind.wrap]; exact Int.emod_nonneg _ (by decide)
/-- A number brought below another one. -/
theorem below_of (x : Int) (m : Nat) (hm : 0 < m) (h9 : m ≤ 9) : ∃ A : Nat, A < m ∧ wrap64 ((IntKind.u64.wrap x).tmod (m : Int)) = (A : Int) := by
  have h0 := u64_range x
  have h1 : 0 ≤ (IntKind.u64.wrap x).tmod (m : Int) := Int.tmod_nonneg _ h0
  have h2 : (IntKind.u64.wrap x).tmod (m : Int) < m := Int.tmod_lt_of_pos _ (by omega)
  refine ⟨((IntKind.u64.wrap x).tmod (m : Int)).toNat, by omega, ?_⟩
  unfold wrap64
  omega
theorem tame_n (x : Int) (most : Nat) (hm : 7 ≤ most ∧ most ≤ 9) : ∃ N : Nat, (2 ≤ N ∧ N ≤ most) ∧ wrap64 (2 + wrap64 ((IntKind.u64.wrap x).tmod ((most : Int) - 1))) = (N : Int) := by
  obtain ⟨A, h1, h2⟩ := below_of x (most - 1) (by omega) (by omega)
  rw [show ((most : Int) - 1) = ((most - 1 : Nat) : Int) by omega, h2]
  refine ⟨2 + A, by omega, ?_⟩
  unfold wrap64
  omega
theorem ArrAt.oneMore {w : World} {g n j : Nat} {In : Nat → Bool} (h : ArrAt w g n (seenBy In)) (hj : j < n) : ArrAt (w.setCell ⟨g, j, none⟩ (.bool true)) g n (seenBy (more In j)) :=
  (h.set hj _).congr fun i _ => by
    unfold seenBy more
    by_cases e : i = j
    · simp [e]
    · simp [e]
/-- Where the walk is to stand still. -/
def Stop (p : Prop) : Prop := p
theorem stop {p : Prop} (h : Stop p) : p := h

/-- Pairs as cells. -/
def flatV (l : List (Nat × Nat)) : List Value := l.flatMap fun q => [.int .i64 (q.1 : Int), .int .i64 (q.2 : Int)]
theorem flatV_len (l : List (Nat × Nat)) : (flatV l).length = l.length * 2 := by
  induction l with
  | nil => rfl
  | cons q t ih => simp only [flatV, List.flatMap_cons, List.length_append, List.length_cons, List.length_nil] at *; omega
theorem flatV_app (l m : List (Nat × Nat)) : flatV (l ++ m) = flatV l ++ flatV m := by simp [flatV]
theorem pair_new (w : World) (i j : Int) (t : TypeId) : ∀ k u, [Value.int .i64 i, Value.int .i64 j][k]? = some u → (w.alloc (.cells #[.int .i64 i, .int .i64 j] t)).cell? ((⟨w.heap.size, 0, none⟩ : Addr).add k) = some u := by
  intro k u h
  rw [Addr.add_lit, Nat.zero_add, World.cell?_alloc_new]
  match k, h with
  | 0, h => exact h
  | 1, h => exact h
theorem pair_one (i j : Int) : ∀ u ∈ [Value.int .i64 i, Value.int .i64 j], u.oneCell' = true := by
  intro u hu
  simp at hu
  rcases hu with rfl | rfl <;> rfl
/-- A row of pairs of the call's own. -/
def RowAt (w : World) (base : Nat) (v : Value) (l : List (Nat × Nat)) : Prop := w.ownsRow base 75 2 v l.length (flatV l)

theorem ArrAt.grown {w w' : World} {g n : Nat} {f : Nat → Value} {row : Option Nat} (h : ArrAt w g n f) (hl : g < w.heap.size) (hg : w.grownBy w' row) (hne : ∀ k, row = some k → k ≠ g) : ArrAt w' g n f := fun i hi => by
  have hb : w'.heap[(⟨g, i, none⟩ : Addr).block]? = w.heap[(⟨g, i, none⟩ : Addr).block]? := hg.block g hl (fun e => hne g e.symm rfl)
  rw [World.cell?_of_block hb, World.frozen?_of_block hb]; exact h i hi
/-- What an append of a pair leaves. -/
theorem row_step {w wr w2 : World} {v v2 : Value} {l : List (Nat × Nat)} {In : Nat → Bool} {i j : Nat} {t : TypeId} (hb : Below w.heap.size w wr) (hg : w.heap.size < wr.heap.size) (ha : ArrAt wr w.heap.size 81 (seenBy In))
    (hr : RowAt wr (w.heap.size + 1) v l) (hown : w2.ownsRow (w.heap.size + 1) 75 2 v2 (l.length + 1) (flatV l ++ [.int .i64 (i : Int), .int .i64 (j : Int)]))
    (hgrow : (wr.alloc (.cells #[.int .i64 (i : Int), .int .i64 (j : Int)] t)).grownBy w2 v.ownBlock) :
    Below w.heap.size w w2 ∧ w.heap.size < w2.heap.size ∧ ArrAt w2 w.heap.size 81 (seenBy In) ∧ RowAt w2 (w.heap.size + 1) v2 (l ++ [(i, j)]) := by
  have hk : ∀ k, v.ownBlock = some k → w.heap.size + 1 ≤ k ∧ k < wr.heap.size := hr.lt
  have hsz : (wr.alloc (.cells #[.int .i64 (i : Int), .int .i64 (j : Int)] t)).heap.size = wr.heap.size + 1 := by simp
  refine ⟨(hb.alloc (by omega) _).grown hgrow (by omega) (fun k e => by have := hk k e; omega), ?_, (ha.alloc hg _).grown (by omega) hgrow (fun k e => by have := hk k e; omega), ?_⟩
  · have := hgrow.size
    omega
  · unfold RowAt
    rw [flatV_app, List.length_append]
    exact hown

theorem flatV_flat : ∀ l : List (Nat × Nat), flatV l = (flat (ints l)).map (Value.int .i64)
  | [] => rfl
  | q :: t => by
    have := flatV_flat t
    simp only [flatV, ints, List.flatMap_cons, List.map_cons, flat, List.cons_append, List.nil_append] at *
    rw [this]
theorem RowAt.pairs {w : World} {base : Nat} {v : Value} {l : List (Nat × Nat)} (h : RowAt w base v l) : PairsAt w v (ints l) := by
  have h' : w.ownsRow base 75 2 v l.length (flatV l) := h
  rcases h'.2 with ⟨rfl, hn⟩ | ⟨g, cap, cur, rfl, h1, h2, h3, h4, h5, h6⟩
  · have : l = [] := List.length_eq_zero_iff.1 hn
    subst this
    exact .inl ⟨rfl, rfl⟩
  · refine .inr ⟨⟨g, 0, none⟩, cap, by rw [ints_len], by rw [ints_len]; exact h3, by rw [ints_len]; unfold maxLen at h4; omega, fun _ => (h'.lt g rfl).2, fun i hi => ?_⟩
    rw [ints_len] at hi
    have := h'.cells (g := g) rfl i (.int .i64 ((flat (ints l)).getD i 0)) (by
      rw [flatV_flat, List.getElem?_map]
      have hlen : i < (flat (ints l)).length := by rw [flat_len, ints_len]; omega
      rw [List.getD_eq_getElem?_getD, List.getElem?_eq_getElem hlen]; rfl)
    exact this

/-- How many cells are true. -/
def isTrue : Option Value → Bool | some (.bool true) => true | _ => false
def cntW (w : World) (g : Nat) : Nat := cnt (fun i => isTrue (w.cell? ⟨g, i, none⟩)) 81
theorem cntW_eq {w : World} {g : Nat} {In : Nat → Bool} (h : ArrAt w g 81 (seenBy In)) : cntW w g = cnt In 81 := by
  unfold cntW cnt
  refine List.countP_congr fun i hi => ?_
  rw [List.mem_range] at hi
  rw [(h i hi).1]
  unfold seenBy
  cases In i <;> simp [isTrue]

theorem zero76 : Tryd.zeroCells76 = Array.replicate 81 (.bool false) := by kernel_rfl

set_option maxRecDepth 100000 in
set_option maxHeartbeats 8000000 in
theorem tame_walk (w : World) (n : Int) (v : Value) (ps : List (Int × Int)) (hv : PairsAt w v ps) (most : Nat) (hm : 7 ≤ most ∧ most ≤ 9) :
    CallsIn Fence.wide 0 Tryd.prog 17 #[.int .i64 n, v, .int .i64 (most : Int)] w fun e w' => ∃ (N : Nat) (v' : Value) (qs : List (Int × Int)), (2 ≤ N ∧ N ≤ most) ∧ e = .returned (.tuple #[.int .i64 (N : Int), v']) ∧ PairsAt w' v' qs ∧ qs.length ≤ 81 ∧ IsBoard N qs ∧ Below w.heap.size w w' := by
  obtain ⟨o, cap, rfl, HV⟩ : ∃ o cap, v = .slice o ps.length cap ∧ Hid (0 < ps.length → ∃ a : Addr, o = some a ∧ a.block < w.heap.size ∧ ∀ i, i < 2 * ps.length → w.cell? (a.add i) = some (.int .i64 ((flat ps).getD i 0))) := by
    rcases hv with ⟨rfl, rfl⟩ | ⟨a, cap, rfl, hcap, hl2, ha, hc⟩
    · exact ⟨none, 0, rfl, fun h => by simp at h⟩
    · exact ⟨some a, cap, rfl, fun h0 => ⟨a, rfl, ha h0, hc⟩⟩
  have HL : ps.length ≤ 9223372036854775807 := by
    rcases hv with ⟨_, rfl⟩ | ⟨_, _, _, _, h, _⟩
    · simp
    · exact h
  clear hv
  refine callsIn_of_wp Tryd.func17 rfl trivial ?_ rfl
  simp only [Tryd.ntmps17, List.size_toArray, List.length_cons, List.length_nil, Nat.reduceAdd, Nat.reduceSub, Array.replicate_succ, Array.replicate_zero, List.push_toArray, List.append_toArray, List.nil_append, List.cons_append]
  obtain ⟨N, hN, hNe⟩ := tame_n n most hm
  have HNE := Hid.intro hNe
  have HA0 : Hid (ArrAt (w.alloc (.cells Tryd.zeroCells76 76)) w.heap.size 81 (seenBy fun _ => false)) := by
    rw [zero76]
    refine ArrAt.new w _ _ fun i hi => ?_
    simp [seenBy, hi]
  have HB0 : Hid (Below w.heap.size w (w.alloc (.cells Tryd.zeroCells76 76))) := (Below.refl _ _).alloc (Nat.le_refl _) _
  clear hNe
  gi_wp2
  rw [HNE.out]
  obtain ⟨W0, hW0⟩ : ∃ W0, W0 = w.alloc (.cells Tryd.zeroCells76 76) := ⟨_, rfl⟩
  rw [← hW0] at HA0 HB0 ⊢
  have hgl : w.heap.size < W0.heap.size := by rw [hW0]; simp
  clear hW0
  gi_loopw [9] (fun i wr => ∃ (k : Nat) (In : Nat → Bool), k ≤ ps.length ∧ k ≤ 20 ∧ i = .int .i64 (k : Int) ∧ Hid (Below w.heap.size w wr) ∧ w.heap.size < wr.heap.size ∧ Hid (ArrAt wr w.heap.size 81 (seenBy In))) (fun i _ => 20 - (intOf i).toNat)
  case atStart => exact ⟨0, _, by omega, by omega, rfl, HB0.out, hgl, HA0.out⟩
  case round =>
    obtain ⟨k, In, hk, hk20, rfl, HBk, hgk, HAk⟩ := hrel
    clear HB0 HA0 hgl
    by_cases hlt : k < ps.length ∧ k < 20
    · obtain ⟨hlt, hlt2⟩ := hlt
      obtain ⟨a, rfl, ha, hc⟩ := HV.out (by omega)
      obtain ⟨p, hp⟩ : ∃ p, ps.getD k (0, 0) = p := ⟨_, rfl⟩
      have g0 : wr.cell? (a.add (k * 2)) = some (.int .i64 p.1) := by
        rw [HBk.out.cell (by rw [add_block]; exact ha), hc _ (by omega), Nat.mul_comm, flat_fst, hp]
      have g1 : wr.cell? ⟨(a.add (k * 2)).block, (a.add (k * 2)).off + 1, none⟩ = some (.int .i64 p.2) := by
        rw [add_add_one, HBk.out.cell (by rw [add_block]; exact ha), hc _ (by omega), Nat.mul_comm, flat_snd, hp]
      obtain ⟨A, hA, hAe⟩ := below_of p.1 N (by omega) (by omega)
      obtain ⟨B, hB, hBe⟩ := below_of p.2 N (by omega) (by omega)
      have hidx : ∀ X Y : Nat, X < N → Y < N → ((X : Int) * 9 + (Y : Int)).toNat = X * 9 + Y ∧ X * 9 + Y < 81 := fun X Y _ _ => by omega
      have i1 := hidx A B hA hB
      have i2 := hidx B A hB hA
      have c1 := (HAk.out _ i1.2).1
      have f1 := (HAk.out _ i1.2).2
      have c2 := (HAk.out _ i2.2).1
      have f2 := (HAk.out _ i2.2).2
      have I1 := Hid.intro i1
      have I2 := Hid.intro i2
      clear hc hp hidx i1 i2
      gi_wp2
      gi_region
      rcases Nat.lt_trichotomy A B with hAB | hAB | hAB
      · gi_wp2
        exact ⟨⟨k + 1, more In (A * 9 + B), by omega, by omega, by go_num, (HBk.out.setCell (Nat.le_refl _) _).drew, by show _ < (World.setCell _ _ _).heap.size; rw [World.size_setCell]; exact hgk, HAk.out.oneMore I1.out.2⟩, by simp [intOf]; omega⟩
      · subst hAB
        gi_wp2
        exact ⟨⟨k + 1, In, by omega, by omega, by go_num, HBk.out.drew, hgk, HAk.out⟩, by simp [intOf]; omega⟩
      · gi_wp2
        exact ⟨⟨k + 1, more In (B * 9 + A), by omega, by omega, by go_num, (HBk.out.setCell (Nat.le_refl _) _).drew, by show _ < (World.setCell _ _ _).heap.size; rw [World.size_setCell]; exact hgk, HAk.out.oneMore I2.out.2⟩, by simp [intOf]; omega⟩
    · have hcut : ps.length ≤ k ∨ (k < ps.length ∧ ¬ ((k : Int) < 20)) := by omega
      rcases hcut with hcut | ⟨hcut, hcut2⟩
      all_goals
        gi_wp2
        gi_loopw [] (fun wr => ∃ In : Nat → Bool, Hid (Below w.heap.size w wr) ∧ w.heap.size < wr.heap.size ∧ Hid (ArrAt wr w.heap.size 81 (seenBy In))) (fun wr => 81 - cntW wr w.heap.size)
        case atStart => exact ⟨In, HBk.out, hgk, HAk.out⟩
        case round =>
          clear hgk HBk HAk
          obtain ⟨In, HB, hg, HA⟩ := hrel
          have HC0 : Hid (cntW wr w.heap.size = cnt In 81) := cntW_eq HA.out
          gi_wp2
          gi_loopw [12, 13] (fun v a wr' => ∃ i : Nat, i ≤ N ∧ a = .int .i64 (i : Int) ∧ Hid (Below w.heap.size w wr') ∧ w.heap.size < wr'.heap.size ∧ Hid (ArrAt wr' w.heap.size 81 (seenBy In)) ∧ Hid (RowAt wr' (w.heap.size + 1) v (rowsL In N i))) (fun _ a _ => N - (intOf a).toNat)
          case atStart => exact ⟨0, by omega, rfl, HB.out, hg, HA.out, World.ownsRow_nil _ _ _ _⟩
          case round =>
            clear HB hg HA
            obtain ⟨i, hi, rfl, HB, hg, HA, HR⟩ := hrel
            by_cases hiN : i < N
            · gi_wp2
              gi_loopw [12, 14] (fun v b wr' => ∃ j : Nat, i < j ∧ j ≤ N ∧ b = .int .i64 (j : Int) ∧ Hid (Below w.heap.size w wr') ∧ w.heap.size < wr'.heap.size ∧ Hid (ArrAt wr' w.heap.size 81 (seenBy In)) ∧ Hid (RowAt wr' (w.heap.size + 1) v (rowsL In N i ++ partL In i j))) (fun _ b _ => N - (intOf b).toNat)
              case atStart => exact ⟨i + 1, by omega, by omega, by go_num, HB.out, hg, HA.out, by have := HR.out; rw [partL_start, List.append_nil]; exact this⟩
              case round =>
                clear HB hg HA HR
                obtain ⟨j, hij, hj, rfl, HB, hg, HA, HR⟩ := hrel
                by_cases hjN : j < N
                · have hidx : i * 9 + j < 81 := by omega
                  have c0 := (HA.out _ hidx).1
                  unfold seenBy at c0
                  cases hIn : In (i * 9 + j) with
                  | false =>
                    rw [hIn] at c0
                    have HIn := Hid.intro hIn
                    clear hIn
                    gi_wp2
                    exact ⟨⟨j + 1, by omega, by omega, by go_num, HB.out, hg, HA.out, by rw [partL_no HIn.out]; exact HR.out⟩, by simp [intOf]; omega⟩
                  | true =>
                    rw [hIn] at c0
                    have HIn := Hid.intro hIn
                    have hrow : wr.ownsRow (w.heap.size + 1) 75 2 u12 (rowsL In N i ++ partL In i j).length (flatV (rowsL In N i ++ partL In i j)) := HR.out
                    have hl1 : (rowsL In N i ++ partL In i j).length ≤ 90 := by
                      rw [List.length_append]
                      have a1 := rowsL_len In N i
                      have a2 := partL_len In i j
                      have a3 : i * N ≤ 9 * 9 := Nat.mul_le_mul (by omega) (by omega)
                      omega
                    clear hIn
                    gi_wp2_with (gi_at_builtin; refine wpListIn_append_own _ rfl _ _ 22 rfl (w.heap.size + 1) 75 Tryd.t75 _ 2 16 u22 t75_info t75_zero t75_size t75_bytes rfl (by decide) _ _ _ rfl (hrow.alloc _) ⟨wr.heap.size, 0, none⟩ 1 1 [.int .i64 (i : Int), .int .i64 (j : Int)] rfl rfl (pair_new _ _ _ _) (pair_one _ _) (by unfold maxLen; omega) (by omega) (by simp; omega) ?_; intro v2 w2 hown2 hgrow2 _; have HSt := Hid.intro (row_step HB.out hg HA.out HR.out hown2 hgrow2); clear hown2 hgrow2 hrow)
                    obtain ⟨s1, s2, s3, s4⟩ := HSt.out
                    exact ⟨⟨j + 1, by omega, by omega, by go_num, s1, s2, s3, by rw [partL_yes hij HIn.out, ← List.append_assoc]; exact s4⟩, by simp [intOf]; omega⟩
                · gi_wp2
                  have hjn : j = N := by omega
                  subst hjn
                  exact ⟨⟨i + 1, by omega, by go_num, HB.out, hg, HA.out, by rw [rowsL_succ]; exact HR.out⟩, by simp [intOf]; omega⟩
            · have hiN' : i = N := by omega
              subst hiN'
              have hq : rowsL In i i = rowsL In i i := rfl
              obtain ⟨qs, hqs⟩ : ∃ qs, rowsL In i i = qs := ⟨_, rfl⟩
              have HQ := Hid.intro hqs
              have hpa : PairsAt wr u12 (ints qs) := by have := HR.out.pairs; rw [hqs] at this; exact this
              have hql : qs.length ≤ 81 := by
                have a1 := rowsL_len In i i
                have a3 : i * i ≤ 9 * 9 := Nat.mul_le_mul (by omega) (by omega)
                rw [hqs] at a1; omega
              have HPA := Hid.intro hpa
              have HBC := Hid.intro (board_calls wr i (by omega) u12 (ints qs) hpa (by rw [ints_len]; omega))
              have hm : ∀ q ∈ qs, q.1 < q.2 ∧ q.2 < i := by
                intro q hq
                rw [← hqs] at hq
                have := mem_rowsL.1 hq
                omega
              have HM := Hid.intro hm
              obtain ⟨o2, cap2, rfl, hea⟩ := hpa.edges
              have HEA := Hid.intro hea
              clear hq hqs hpa HR hm hea
              gi_wp2_with (first
                | (gi_at_call 48; refine HBC.out.mono ?_; rintro e w2 ⟨⟨b, hb, rfl⟩, hB2⟩; have HI := Hid.intro hb; have HB2 := Hid.intro hB2; have hz2 := hB2.size; clear hb hB2; cases b)
                | (gi_at_make; refine stop ?_))
              · unfold Stop
                refine wpListIn_make_full _ rfl _ _ _ rfl (w.heap.size + 1) 4 Tryd.t4 _ 1 Go.Eng.u77 t4_info t4_zero t4_size _ _ _ _ i rfl rfl rfl rfl (by rw [t4_bytes]; omega) (by unfold maxLen; omega) (by omega) ?_
                intro w3 hown hgrow
                have HOW := Hid.intro hown
                have HGR := Hid.intro hgrow
                clear hown hgrow
                have hnb : ¬ IsBoard i (ints qs) := fun q => by have := HI.out.2 q; simp at this
                have HNB := Hid.intro hnb
                obtain ⟨g3, hg3⟩ : ∃ g3, w2.heap.size = g3 := ⟨_, rfl⟩
                have HBa : Hid (Below w.heap.size w w2) := HB.out.trans (HB2.out.mono HB.out.size)
                have HA2 : Hid (ArrAt w2 w.heap.size 81 (seenBy In)) := HA.out.below hg HB2.out
                have HEA2 : Hid (EdgesAt w2 o2 qs) := HEA.out.below HB2.out
                have HAs : Hid (ArrAt w3 g3 i (fun _ => .bool false)) := by rw [← hg3]; exact ArrAt.of_row HOW.out (fun i hi => made_bools (by omega))
                have hg3l : w.heap.size < g3 := by omega
                have HB3 : Hid (Below g3 w2 w3) := (Below.refl _ w2).grown HGR.out (by omega) (fun _ h => by cases h)
                have HG3 := Hid.intro hg3
                rw [hg3]
                clear HBC HPA HEA HI hnb HOW HGR HB2 hz2 hg3 HB HA hg
                have hc1 := (HAs.out 0 (by omega)).1
                have hc2 := (HAs.out 0 (by omega)).2
                gi_wp2
                obtain ⟨W4, hW4⟩ : ∃ W4, W4 = w3.setCell ⟨g3, 0, none⟩ (.bool true) := ⟨_, rfl⟩
                rw [← hW4]
                have HB4 : Hid (Below g3 w2 W4) := by rw [hW4]; exact HB3.out.setCell (p := ⟨g3, 0, none⟩) (Nat.le_refl _) _
                have HAs4 : Hid (ArrAt W4 g3 i (seenBy (rounds qs (-1) (fun j => j == 0) 0))) := by rw [hW4]; exact HAs.out.first (by omega)
                clear hW4 HB3 HAs hc1 hc2
                gi_loopw [16] (fun r wr' => ∃ r' : Nat, r' ≤ i ∧ r = .int .i64 (r' : Int) ∧ Hid (Below g3 w2 wr') ∧ Hid (ArrAt wr' g3 i (seenBy (rounds qs (-1) (fun j => j == 0) r')))) (fun r _ => i - (intOf r).toNat)
                case atStart => exact ⟨0, by omega, rfl, HB4.out, HAs4.out⟩
                case round =>
                  obtain ⟨r, hr, rfl, HBr, HAr⟩ := hrel
                  clear HB4 HAs4
                  by_cases hrN : r < i
                  · gi_wp2
                    gi_loopw [17] (fun t wr' => ∃ t' : Nat, t' ≤ qs.length ∧ t = .int .i64 (t' : Int) ∧ Hid (Below g3 w2 wr') ∧ Hid (ArrAt wr' g3 i (seenBy ((qs.take t').foldl (oneEdge (-1)) (rounds qs (-1) (fun j => j == 0) r))))) (fun t _ => qs.length - (intOf t).toNat)
                    case atStart => exact ⟨0, by omega, rfl, HBr.out, HAr.out⟩
                    case round =>
                      clear HBr HAr
                      obtain ⟨t, ht, rfl, HBt, HAt⟩ := hrel
                      by_cases hlt : t < qs.length
                      · obtain ⟨a, rfl, ha, hc⟩ := HEA2.out (by omega)
                        rw [HG3.out] at ha
                        have g0 := (HBt.out.cell (p := a.add (t * 2)) (by rw [add_block]; exact ha)).trans (hc t hlt).1
                        have g1 := (HBt.out.cell (p := a.add (t * 2 + 1)) (by rw [add_block]; exact ha)).trans (hc t hlt).2
                        rw [← add_add_one] at g1
                        have hmem := HM.out qs[t] (List.getElem_mem hlt)
                        have hget : qs.getD t (0, 0) = qs[t] := by rw [List.getD_eq_getElem?_getD, List.getElem?_eq_getElem hlt]; rfl
                        obtain ⟨x, hxe⟩ : ∃ x, (qs.getD t (0, 0)).1 = x := ⟨_, rfl⟩
                        obtain ⟨y, hye⟩ : ∃ y, (qs.getD t (0, 0)).2 = y := ⟨_, rfl⟩
                        have hx : x < i := by rw [← hxe, hget]; omega
                        have hy : y < i := by rw [← hye, hget]; omega
                        rw [hxe] at g0
                        rw [hye] at g1
                        obtain ⟨S, hS⟩ : ∃ S, (qs.take t).foldl (oneEdge (-1)) (rounds qs (-1) (fun j => j == 0) r) = S := ⟨_, rfl⟩
                        rw [hS] at HAt
                        have kx0 := (HAt.out x hx).1
                        have kx1 := (HAt.out x hx).2
                        have ky0 := (HAt.out y hy).1
                        have ky1 := (HAt.out y hy).2
                        have kyy := (HAt.out.set hx (.bool true) y hy).1
                        unfold seenBy at kx0 ky0 kyy
                        obtain ⟨v, kyy⟩ : ∃ v, (wr.setCell ⟨g3, x, none⟩ (.bool true)).cell? ⟨g3, y, none⟩ = some v := ⟨_, kyy⟩
                        have HE2 := Hid.intro (oneEdge_next (but := -1) hlt hxe hye hS)
                        clear hc hxe hye hS hmem hget
                        gi_wp2
                        gi_region
                        gi_wp2
                        all_goals
                          refine ⟨⟨t + 1, by omega, by go_num, ?_, ?_⟩, by simp [intOf]; omega⟩
                        all_goals first
                          | exact HBt.out.drew
                          | exact ((HBt.out.setCell (p := ⟨g3, x, none⟩) (Nat.le_refl _) _).setCell (p := ⟨g3, y, none⟩) (Nat.le_refl _) _).drew
                          | skip
                        all_goals
                          rw [HE2.out]
                          first
                            | exact edge_no HAt.out (by rintro ⟨⟨h1, h2⟩, h3⟩; simp_all)
                            | exact edge_yes HAt.out hx hy (by refine ⟨⟨by omega, by omega⟩, by simp_all⟩)
                      · gi_wp2
                        exact ⟨⟨r + 1, by omega, by go_num, HBt.out, by
                          have := HAt.out
                          rw [List.take_of_length_le (by omega)] at this
                          exact this⟩, by simp [intOf]; omega⟩
                  · have hri : r = i := by omega
                    subst hri
                    gi_wp2
                    gi_loop [20] (fun q => ∃ q' : Nat, q' ≤ r ∧ q = .int .i64 (q' : Int) ∧ Hid (∀ m, m < q' → rounds qs (-1) (fun j => j == 0) r m = true)) (fun q => r - (intOf q).toNat)
                    case atStart => exact ⟨0, by omega, rfl, fun m h => by omega⟩
                    case round =>
                      obtain ⟨q, hq, rfl, HQ2⟩ := hrel
                      by_cases hqr : q < r
                      · have kx0 := (HAr.out q hqr).1
                        unfold seenBy at kx0
                        cases hS : rounds qs (-1) (fun j => j == 0) r q with
                        | true =>
                          rw [hS] at kx0
                          have HS := Hid.intro hS
                          clear hS
                          gi_wp2
                          refine ⟨⟨q + 1, by omega, by go_num, fun m hm => ?_⟩, by simp [intOf]; omega⟩
                          rcases Nat.lt_or_ge m q with h | h
                          · exact HQ2.out m h
                          · have : m = q := by omega
                            subst this; exact HS.out
                        | false =>
                          rw [hS] at kx0
                          obtain ⟨m, rfl⟩ : ∃ m, q = m + 1 := by
                            refine ⟨q - 1, ?_⟩
                            rcases Nat.eq_zero_or_pos q with h | h
                            · subst h
                              have := rounds_le (qs := qs) (but := -1) (S := fun j => j == 0) (i := 0) rfl r
                              rw [hS] at this; cases this
                            · omega
                          have hIn : In (m * 9 + (m + 1)) = false := by
                            have e := HQ.out
                            subst e
                            exact no_edge hqr (HQ2.out m (by omega)) hS
                          have HIn := Hid.intro hIn
                          have hidx : m * 9 + (m + 1) < 81 := by omega
                          have hAin : ArrAt wr w.heap.size 81 (seenBy In) := HA2.out.below hg3l HBr.out
                          have HAin := Hid.intro hAin
                          have d0 := (hAin _ hidx).1
                          have d1 := (hAin _ hidx).2
                          clear hS hIn hAin
                          gi_wp2
                          have hnew := HAin.out.oneMore hidx
                          refine ⟨⟨more In (m * 9 + (m + 1)), (HBa.out.trans (HBr.out.mono (by omega))).setCell (Nat.le_refl _) _, ?_, hnew⟩, ?_⟩
                          · show _ < (World.setCell _ _ _).heap.size
                            rw [World.size_setCell]
                            have := HBr.out.size
                            have := HG3.out
                            omega
                          · rw [HC0.out, cntW_eq hnew]
                            have := more_cnt hidx HIn.out
                            have := cnt_le (more In (m * 9 + (m + 1))) 81
                            omega
                      · exfalso
                        obtain ⟨m, hm, hmf⟩ := not_linked (In := In) (N := r) (by omega) (by rw [HQ.out]; exact HNB.out)
                        rw [HQ.out] at hmf
                        have := HQ2.out m (by omega)
                        rw [hmf] at this; cases this
              · all_goals (first | go_returns | go_ret | go_end0)
                exact ⟨i, _, ints qs, by omega, rfl, HPA.out.below HB2.out, by rw [ints_len]; exact hql, HI.out.1 trivial, HB.out.trans (HB2.out.mono HB.out.size)⟩
end Go.Eng
