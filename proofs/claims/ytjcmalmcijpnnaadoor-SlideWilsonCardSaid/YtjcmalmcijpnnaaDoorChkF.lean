/-
  What 'own' of the law's package makes: a copy of the first pairs.
  Conditions: the pairs' cells are known.
-/
import Derived.Test.YtjcmalmcijpnnaaDoorChkD
namespace Go.Eng
open Go.RowKit Go.Proofs Go.Proofs.YtjcmalmcijpnnaaDoor

/-- The numbers of pairs, in a row. -/
def flat : List (Int × Int) → List Int
  | [] => []
  | p :: t => p.1 :: p.2 :: flat t
theorem flat_len : ∀ ps, (flat ps).length = 2 * ps.length
  | [] => rfl
  | _ :: t => by simp [flat, flat_len t]; omega
theorem flat_take : ∀ (ps : List (Int × Int)) (n : Nat), flat (ps.take n) = (flat ps).take (2 * n)
  | [], n => by simp [flat]
  | p :: t, 0 => by simp [flat]
  | p :: t, n + 1 => by
    have : 2 * (n + 1) = (2 * n + 1) + 1 := by omega
    rw [this]
    simp [flat, flat_take t n]
theorem flat_fst : ∀ (ps : List (Int × Int)) (i : Nat), (flat ps).getD (2 * i) 0 = (ps.getD i (0, 0)).1
  | [], i => by simp [flat]
  | p :: t, 0 => by simp [flat]
  | p :: t, i + 1 => by
    have : 2 * (i + 1) = (2 * i + 1) + 1 := by omega
    rw [this]
    have h := flat_fst t i
    simpa [flat] using h
theorem flat_snd : ∀ (ps : List (Int × Int)) (i : Nat), (flat ps).getD (2 * i + 1) 0 = (ps.getD i (0, 0)).2
  | [], i => by simp [flat]
  | p :: t, 0 => by simp [flat]
  | p :: t, i + 1 => by
    have : 2 * (i + 1) + 1 = (2 * i + 1 + 1) + 1 := by omega
    rw [this]
    have h := flat_snd t i
    simpa [flat] using h

/-- A list of pairs of ints, as a slice. -/
def PairsAt (w : World) (v : Value) (ps : List (Int × Int)) : Prop :=
  (v = .slice none 0 0 ∧ ps = []) ∨ ∃ (a : Addr) (cap : Nat), v = .slice (some a) ps.length cap ∧ ps.length ≤ cap ∧ ps.length ≤ 9223372036854775807 ∧ (0 < ps.length → a.block < w.heap.size) ∧ ∀ i, i < 2 * ps.length → w.cell? (a.add i) = some (.int .i64 ((flat ps).getD i 0))

theorem PairsAt.below {w w' : World} {v : Value} {ps : List (Int × Int)} (h : PairsAt w v ps) (hb : Below w.heap.size w w') : PairsAt w' v ps := by
  rcases h with h | ⟨a, cap, rfl, hcap, hl, ha, hc⟩
  · exact .inl h
  · exact .inr ⟨a, cap, rfl, hcap, hl, fun h => Nat.lt_of_lt_of_le (ha h) hb.size, fun i hi => (hb.cell (p := a.add i) (by rw [add_block]; exact ha (by omega))).trans (hc i hi)⟩

theorem t75_info : Tryd.prog.info? 75 = some Tryd.t75 := by kernel_rfl
theorem u22 : Tryd.prog.underlying 22 = some (.slice 75) := by kernel_rfl
theorem t75_zero : Tryd.t75.zero = some (.agg #[.int .i64 0, .int .i64 0]) := by kernel_rfl
theorem t75_size : Tryd.t75.size = 2 := by kernel_rfl
theorem t75_bytes : Tryd.t75.bytes = 16 := by kernel_rfl

theorem copyPairs_run (w : World) (a : Addr) (n cap : Nat) (ps : List (Int × Int)) (hn : n ≤ ps.length) (h0 : 0 < n) (h1 : n ≤ 1000) (hc : ∀ i, i < 2 * ps.length → w.cell? (a.add i) = some (.int .i64 ((flat ps).getD i 0))) :
    ∃ v W', (Builtin.append_ #[22, 22] 22 #[.slice none 0 0, .slice (some a) n cap]).run Tryd.prog w = .ok v W' ∧ PairsAt W' v (ps.take n) ∧ Below w.heap.size w W' := by
  have hfl : (flat (ps.take n)).length = 2 * n := by rw [flat_len, List.length_take]; omega
  have hlen : ((flat (ps.take n)).map (Value.int .i64)).length = n * Tryd.t75.size := by rw [t75_size, List.length_map, hfl]; omega
  have hnews : ∀ j u, ((flat (ps.take n)).map (Value.int .i64))[j]? = some u → w.cell? (a.add j) = some u := by
    intro j u h
    rw [List.getElem?_map, Option.map_eq_some_iff] at h
    obtain ⟨z, hz, rfl⟩ := h
    rw [flat_take, List.getElem?_take] at hz
    split at hz
    · rw [hc j (by omega), List.getD_eq_getElem?_getD, hz]; rfl
    · cases hz
  have hrun := run_append_nil (P := Tryd.prog) w 22 22 75 Tryd.t75 (.agg #[.int .i64 0, .int .i64 0]) u22 t75_info t75_zero a n cap _ hlen hnews h0 (by omega) (by rw [t75_bytes]; omega)
  have hpl : (ps.take n).length = n := by rw [List.length_take]; omega
  refine ⟨_, _, hrun, .inr ⟨⟨w.heap.size, 0, none⟩, grownCap w n 0 75, ?_, ?_, ?_, ?_, ?_⟩, ?_⟩
  · rw [hpl]
  · rw [hpl]; exact grownCap_ge w n 0 75
  · rw [hpl]; omega
  · intro _; simp
  · intro i hi
    rw [hpl] at hi
    rw [show (⟨w.heap.size, 0, none⟩ : Addr).add i = ⟨w.drew.heap.size, i, none⟩ by rw [Addr.add_lit]; simp, World.cell?_alloc_new]
    rw [Array.getElem?_append_left (by simp [hfl]; omega)]
    have hz : (flat (ps.take n))[i]? = some ((flat (ps.take n)).getD i 0) := by
      rw [List.getD_eq_getElem?_getD, List.getElem?_eq_getElem (by omega)]; rfl
    rw [List.getElem?_toArray, List.getElem?_map, hz]; rfl
  · exact (Below.refl _ _).drew.alloc (by simp) _

set_option maxHeartbeats 4000000 in
set_option maxRecDepth 10000 in
theorem own_walk (w : World) (a : Addr) (cap : Nat) (ps : List (Int × Int)) (hl : ps.length ≤ 9223372036854775807) (h0 : 0 < ps.length) (hcap : ps.length ≤ cap) (hc : ∀ i, i < 2 * ps.length → w.cell? (a.add i) = some (.int .i64 ((flat ps).getD i 0))) :
    CallsIn Fence.wide 0 Tryd.prog 43 #[.slice (some a) ps.length cap] w fun e w' => ∃ v, e = .returned v ∧ PairsAt w' v (ps.take 40) ∧ Below w.heap.size w w' := by
  by_cases hle : ps.length ≤ 40
  · obtain ⟨v1, W1, hrun, i1, b1⟩ := copyPairs_run w a ps.length cap ps (Nat.le_refl _) h0 (by omega) hc
    have e : ps.take 40 = ps.take ps.length := by rw [List.take_of_length_le (by omega), List.take_of_length_le (Nat.le_refl _)]
    rw [e]
    have HI := Hid.intro i1
    have HB := Hid.intro b1
    clear hc i1 b1 e
    refine callsIn_of_wp Tryd.func43 rfl trivial ?_ rfl
    simp only [Tryd.ntmps43, List.size_toArray, List.length_cons, List.length_nil, Nat.reduceAdd, Nat.reduceSub, Array.replicate_succ, Array.replicate_zero, List.push_toArray, List.append_toArray, List.nil_append, List.cons_append]
    gi_wp2_with (gi_at_builtin; refine wpListIn_append_run _ rfl _ _ _ rfl rfl rfl hrun ?_)
    all_goals first | (exfalso; omega) | skip
    all_goals (first | go_returns | go_ret | go_end0)
    all_goals exact ⟨_, rfl, HI.out, HB.out⟩
  · obtain ⟨v1, W1, hrun, i1, b1⟩ := copyPairs_run w a 40 cap ps (by omega) (by omega) (by omega) hc
    have HI := Hid.intro i1
    have HB := Hid.intro b1
    clear hc i1 b1
    refine callsIn_of_wp Tryd.func43 rfl trivial ?_ rfl
    simp only [Tryd.ntmps43, List.size_toArray, List.length_cons, List.length_nil, Nat.reduceAdd, Nat.reduceSub, Array.replicate_succ, Array.replicate_zero, List.push_toArray, List.append_toArray, List.nil_append, List.cons_append]
    gi_wp2_with (gi_at_builtin; refine wpListIn_append_run _ rfl _ _ _ rfl rfl rfl hrun ?_)
    all_goals first | (exfalso; omega) | skip
    all_goals (first | go_returns | go_ret | go_end0)
    all_goals exact ⟨_, rfl, HI.out, HB.out⟩

theorem emptyPairs_run (w : World) (o : Option Addr) (cap : Nat) : (Builtin.append_ #[22, 22] 22 #[.slice none 0 0, .slice o 0 cap]).run Tryd.prog w = .ok (.slice none 0 0) w := by
  have hu := u22
  have hi := t75_info
  cases o <;> simp [Builtin.append_, run_underlying hu, sizeOf, typeInfo, hi, Builtin.lenOf, Builtin.firstCells, go_sem]

set_option maxHeartbeats 4000000 in
theorem own_empty (w : World) (o : Option Addr) (cap : Nat) :
    CallsIn Fence.wide 0 Tryd.prog 43 #[.slice o 0 cap] w fun e w' => ∃ v, e = .returned v ∧ PairsAt w' v [] ∧ Below w.heap.size w w' := by
  have hrun := emptyPairs_run w o cap
  refine callsIn_of_wp Tryd.func43 rfl trivial ?_ rfl
  simp only [Tryd.ntmps43, List.size_toArray, List.length_cons, List.length_nil, Nat.reduceAdd, Nat.reduceSub, Array.replicate_succ, Array.replicate_zero, List.push_toArray, List.append_toArray, List.nil_append, List.cons_append]
  gi_wp2_with (gi_at_builtin; refine wpListIn_append_run _ rfl _ _ _ rfl rfl rfl hrun ?_)
  all_goals first | (exfalso; omega) | skip
  all_goals (first | go_returns | go_ret | go_end0)
  all_goals exact ⟨_, rfl, .inl ⟨rfl, rfl⟩, Below.refl _ _⟩

/-- **'own': a copy of the first 40 pairs.** -/
theorem own_calls (w : World) (v : Value) (ps : List (Int × Int)) (hv : PairsAt w v ps) :
    CallsIn Fence.wide 0 Tryd.prog 43 #[v] w fun e w' => ∃ v', e = .returned v' ∧ PairsAt w' v' (ps.take 40) ∧ Below w.heap.size w w' := by
  rcases hv with ⟨rfl, rfl⟩ | ⟨a, cap, rfl, hcap, hl, ha, hc⟩
  · simpa using own_empty w none 0
  · by_cases h0 : 0 < ps.length
    · exact own_walk w a cap ps hl h0 hcap hc
    · have : ps = [] := List.length_eq_zero_iff.1 (by omega)
      subst this
      simpa using own_empty w (some a) cap
end Go.Eng
