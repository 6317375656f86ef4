/-
  What 'Board' and 'Check' of the reference answer.
  Conditions: the pairs' cells are known.
-/
import Derived.Test.YtjcmalmcijpnnaaDoorChkI
namespace Go.Eng
open Go.RowKit Go.Proofs Go.Proofs.YtjcmalmcijpnnaaDoor

/-- The pairs' numbers as places. -/
def nats (ps : List (Int × Int)) : List (Nat × Nat) := ps.map fun p => (p.1.toNat, p.2.toNat)
theorem nats_len (ps : List (Int × Int)) : (nats ps).length = ps.length := by simp [nats]
theorem nats_fst (ps : List (Int × Int)) (i : Nat) : ((nats ps).getD i (0, 0)).1 = (ps.getD i (0, 0)).1.toNat := by
  simp only [nats, List.getD_eq_getElem?_getD, List.getElem?_map]
  cases ps[i]? <;> rfl
theorem nats_snd (ps : List (Int × Int)) (i : Nat) : ((nats ps).getD i (0, 0)).2 = (ps.getD i (0, 0)).2.toNat := by
  simp only [nats, List.getD_eq_getElem?_getD, List.getElem?_map]
  cases ps[i]? <;> rfl
theorem ints_nats {n : Int} {ps : List (Int × Int)} (h : EdgesTo n ps ps.length) : ints (nats ps) = ps := by
  unfold ints nats
  rw [List.map_map]
  conv => rhs; rw [← List.map_id ps]
  apply List.map_congr_left
  intro p hp
  obtain ⟨i, hi, rfl⟩ := List.getElem_of_mem hp
  have := (h i hi).1
  rw [List.getD_eq_getElem?_getD, List.getElem?_eq_getElem hi] at this
  simp only [Option.getD_some] at this
  exact Prod.ext (Int.toNat_of_nonneg this.1) (Int.toNat_of_nonneg (by show 0 ≤ ps[i].2; omega))
theorem nats_lt {N : Nat} {ps : List (Int × Int)} (h : EdgesTo N ps ps.length) : ∀ i, i < (nats ps).length → ((nats ps).getD i (0, 0)).1 < N ∧ ((nats ps).getD i (0, 0)).2 < N := by
  intro i hi
  rw [nats_len] at hi
  have := (h i hi).1
  rw [nats_fst, nats_snd]
  omega
theorem nats_mem {N : Nat} {ps : List (Int × Int)} (h : EdgesTo N ps ps.length) : ∀ q ∈ nats ps, q.1 < q.2 ∧ q.2 < N := by
  intro q hq
  obtain ⟨i, hi, rfl⟩ := List.getElem_of_mem hq
  have hi' : i < ps.length := by rw [nats_len] at hi; exact hi
  have := (h i hi').1
  have e1 := nats_fst ps i
  have e2 := nats_snd ps i
  rw [List.getD_eq_getElem?_getD, List.getElem?_eq_getElem hi] at e1 e2
  simp only [Option.getD_some] at e1 e2
  omega

/-- The places are connected by the pairs, one place (-1: none) left out. -/
def Linked (N : Nat) (ps : List (Int × Int)) (but : Int) : Prop := ∀ i : Nat, i < N → (i : Int) ≠ but → Rch (AdjBut (nats ps) but) (firstOf but) i
/-- The pairs are the edges of a board. -/
def IsBoard (N : Nat) (ps : List (Int × Int)) : Prop := EdgesTo N ps ps.length ∧ Linked N ps (-1)

/-- **'joined' of the reference.** -/
theorem joined_calls (w : World) (N : Nat) (hN : 2 ≤ N ∧ N ≤ 9) (v : Value) (ps : List (Int × Int)) (hv : PairsAt w v ps) (hl : ps.length ≤ 1000) (hE : EdgesTo N ps ps.length) (but : Int) :
    CallsIn Fence.wide 0 Tryd.prog 62 #[.int .i64 (N : Int), v, .int .i64 but] w fun e w' => Says (Linked N ps but) e ∧ Below w.heap.size w w' := by
  rw [← ints_nats hE] at hv
  obtain ⟨o, cap, rfl, he⟩ := hv.edges
  refine (joined_walk w N hN o cap (nats ps) he (by rw [nats_len]; exact hl) (nats_lt hE) but).mono ?_
  rintro e w' ⟨⟨b, hb, rfl⟩, hB⟩
  refine ⟨⟨b, ?_, rfl⟩, hB⟩
  rw [hb]
  have FF : firstOf but < N := by unfold firstOf; split <;> omega
  have law := rounds_law (but := but) FF (fun q hq => by have := nats_mem hE q hq; omega)
  unfold Linked
  exact ⟨fun h i h1 h2 => (law i).1 (h i h1 h2), fun h i h1 h2 => (law i).2 (h i h1 h2)⟩

set_option maxHeartbeats 4000000 in
theorem board_nil {J : Prop} (w : World) (n : Int) (o : Option Addr) (cap : Nat) (hJ : EdgesTo n [] 0 → ∀ w1, Below w.heap.size w w1 → CallsIn Fence.wide 0 Tryd.prog 62 #[.int .i64 n, .slice o 0 cap, .int .i64 (-1)] w1 fun e w' => Says J e ∧ Below w1.heap.size w1 w') :
    CallsIn Fence.wide 0 Tryd.prog 48 #[.int .i64 n, .slice o 0 cap] w fun e w' => Says (EdgesTo n [] 0 ∧ J) e ∧ Below w.heap.size w w' := by
  have HE : EdgesTo n [] 0 := fun i h => by omega
  have HJ := Hid.intro (hJ HE)
  clear hJ
  have HE2 := Hid.intro HE
  clear HE
  refine callsIn_of_wp Tryd.func48 rfl trivial ?_ rfl
  simp only [Tryd.ntmps48, List.size_toArray, List.length_cons, List.length_nil, Nat.reduceAdd, Nat.reduceSub, Array.replicate_succ, Array.replicate_zero, List.push_toArray, List.append_toArray, List.nil_append, List.cons_append]
  gi_wp2
  refine wpIn_loop_rounds 1 ?_
  rw [roundsIn_succ]
  gi_wp2
  refine ⟨trivial, rfl, (HJ.out _ (Below.refl _ _)).mono ?_⟩
  rintro e w2 ⟨⟨b, hb, rfl⟩, hB2⟩
  have HB2 := Hid.intro hB2
  have HI := Hid.intro hb
  clear hB2 hb
  gi_wp2
  all_goals (first | go_returns | go_ret | go_end0)
  exact ⟨⟨b, by rw [HI.out]; exact ⟨fun q => ⟨HE2.out, q⟩, fun q => q.2⟩, rfl⟩, HB2.out⟩

/-- **'Board' of the reference: whether pairs are the edges of a board.** -/
theorem board_calls (w : World) (N : Nat) (hN : 2 ≤ N ∧ N ≤ 9) (v : Value) (ps : List (Int × Int)) (hv : PairsAt w v ps) (hl : ps.length ≤ 1000) :
    CallsIn Fence.wide 0 Tryd.prog 48 #[.int .i64 (N : Int), v] w fun e w' => Says (IsBoard N ps) e ∧ Below w.heap.size w w' := by
  have hv' := hv
  rcases hv with ⟨rfl, rfl⟩ | ⟨a, cap, rfl, hcap, hl2, ha, hc⟩
  · exact board_nil w N none 0 fun hE w1 hb => joined_calls w1 N hN _ [] (hv'.below hb) hl hE (-1)
  · by_cases h0 : 0 < ps.length
    · exact board_walk w N a cap ps hl (ha h0) (fun hE w1 hb => joined_calls w1 N hN _ ps (hv'.below hb) hl hE (-1)) hc
    · have : ps = [] := List.length_eq_zero_iff.1 (by omega)
      subst this
      exact board_nil w N (some a) cap fun hE w1 hb => joined_calls w1 N hN _ [] (hv'.below hb) hl hE (-1)

/-- What is wrong with a board: ErrArg, ErrBoard, or nothing. -/
def BoardErr (n : Int) (ps : List (Int × Int)) (c : Int) : Prop :=
  (¬ (2 ≤ n ∧ n ≤ 9) ∧ c = 1) ∨ ((2 ≤ n ∧ n ≤ 9) ∧ ¬ IsBoard n.toNat ps ∧ c = 100) ∨ ((2 ≤ n ∧ n ≤ 9) ∧ IsBoard n.toNat ps ∧ c = 0)
theorem BoardErr.unique {n : Int} {ps : List (Int × Int)} {c d : Int} (h : BoardErr n ps c) (k : BoardErr n ps d) : c = d := by
  rcases h with ⟨a, rfl⟩ | ⟨a, b, rfl⟩ | ⟨a, b, rfl⟩ <;> rcases k with ⟨a', rfl⟩ | ⟨a', b', rfl⟩ | ⟨a', b', rfl⟩ <;> first | rfl | exact absurd a' a | exact absurd a a' | exact absurd b' b | exact absurd b b'
def ErrOf (n : Int) (ps : List (Int × Int)) (e : Ending) : Prop := ∃ c, BoardErr n ps c ∧ e = .returned (.int .i64 c)

set_option maxHeartbeats 4000000 in
/-- **'Check' of the reference.** -/
theorem check_calls (w : World) (n : Int) (v : Value) (ps : List (Int × Int)) (hv : PairsAt w v ps) (hl : ps.length ≤ 1000) :
    CallsIn Fence.wide 0 Tryd.prog 44 #[.int .i64 n, v] w fun e w' => ErrOf n ps e ∧ Below w.heap.size w w' := by
  have HV := Hid.intro hv
  have HL := Hid.intro hl
  clear hv hl
  refine callsIn_of_wp Tryd.func44 rfl trivial ?_ rfl
  simp only [Tryd.ntmps44, List.size_toArray, List.length_cons, List.length_nil, Nat.reduceAdd, Nat.reduceSub, Array.replicate_succ, Array.replicate_zero, List.push_toArray, List.append_toArray, List.nil_append, List.cons_append]
  gi_wp2
  refine ⟨trivial, rfl, (number_calls w n).mono ?_⟩
  rintro e w1 ⟨rfl, hb1⟩
  have HB1 := Hid.intro hb1
  clear hb1
  by_cases hn : 2 ≤ n ∧ n ≤ 9
  · have hnum : decide (2 ≤ n ∧ n ≤ 9) = true := by simp [hn]
    rw [hnum]
    have HN := Hid.intro hn
    obtain ⟨N, rfl⟩ : ∃ N : Nat, n = (N : Int) := ⟨n.toNat, by omega⟩
    clear hnum
    gi_wp2
    refine ⟨trivial, rfl, (board_calls w1 N (by omega) v ps (HV.out.below HB1.out) HL.out).mono ?_⟩
    rintro e w2 ⟨⟨b, hb, rfl⟩, hB2⟩
    have HB2 := Hid.intro (HB1.out.trans (hB2.mono HB1.out.size))
    have HI := Hid.intro hb
    clear hB2 hb hn
    cases b
    · gi_wp2
      all_goals (first | go_returns | go_ret | go_end0)
      exact ⟨⟨100, .inr (.inl ⟨HN.out, fun q => by have := HI.out.2 q; simp at this, rfl⟩), rfl⟩, HB2.out⟩
    · gi_wp2
      all_goals (first | go_returns | go_ret | go_end0)
      exact ⟨⟨0, .inr (.inr ⟨HN.out, HI.out.1 trivial, rfl⟩), rfl⟩, HB2.out⟩
  · have hnum : decide (2 ≤ n ∧ n ≤ 9) = false := by simp; omega
    rw [hnum]
    have HN := Hid.intro hn
    clear hnum hn
    gi_wp2
    all_goals (first | go_returns | go_ret | go_end0)
    exact ⟨⟨1, .inl ⟨HN.out, rfl⟩, rfl⟩, HB1.out⟩
end Go.Eng
