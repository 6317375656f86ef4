/-
  What the functions behind 'openAll' answer where something is wrong.
  Conditions: the pairs' cells and the lists' are known.
-/
import Derived.Test.YtjcmalmcijpnnaaDoorChkO
namespace Go.Eng
open Go.RowKit Go.Proofs Go.Proofs.YtjcmalmcijpnnaaDoor

theorem IntsAt.form {w : World} {v : Value} {zs : List Int} (h : IntsAt w v zs) : ∃ o cap, v = .slice o zs.length cap := by
  rcases h with ⟨rfl, rfl⟩ | ⟨a, cap, rfl, _⟩
  · exact ⟨_, _, rfl⟩
  · exact ⟨_, _, rfl⟩

theorem openAll_one (w : World) (n : Int) (v : Value) (ps : List (Int × Int)) (hv : PairsAt w v ps) (hl : ps.length ≤ 1000) (u : Value) (zs : List Int) (hu : IntsAt w u zs) (c : Int) (hc : c ≠ 0) (he : AllErr n ps 1 (fun _ => zs) c) (t : TypeId) :
    CallsIn Fence.wide 0 Tryd.prog 55 #[.int .i64 n, v, .slice (some ⟨w.heap.size, 0, none⟩) 1 1] (w.alloc (.cells #[u] t)) fun e w' => e = .returned (.tuple #[.pointer none, .int .i64 c]) ∧ Below w.heap.size w w' := by
  have hB : Below w.heap.size w (w.alloc (.cells #[u] t)) := (Below.refl _ _).alloc (Nat.le_refl _) _
  refine (openAll_err _ n v ps (hv.below hB) hl ⟨w.heap.size, 0, none⟩ 1 1 (by omega) (by simp) (fun _ => u) (fun _ => zs) ?_ (fun _ _ => hu.below hB) c hc he).mono ?_
  · intro i hi
    have : i = 0 := by omega
    subst this
    exact World.cell?_alloc_new _ _ _ _
  · rintro e w' ⟨rfl, hb⟩
    exact ⟨rfl, hB.trans (hb.mono (by simp))⟩
theorem openAll_two (w : World) (n : Int) (v : Value) (ps : List (Int × Int)) (hv : PairsAt w v ps) (hl : ps.length ≤ 1000) (u u' : Value) (zs zs' : List Int) (hu : IntsAt w u zs) (hu' : IntsAt w u' zs') (c : Int) (hc : c ≠ 0) (he : AllErr n ps 2 (fun i => if i = 0 then zs else zs') c) (t : TypeId) :
    CallsIn Fence.wide 0 Tryd.prog 55 #[.int .i64 n, v, .slice (some ⟨w.heap.size, 0, none⟩) 2 2] (w.alloc (.cells #[u, u'] t)) fun e w' => e = .returned (.tuple #[.pointer none, .int .i64 c]) ∧ Below w.heap.size w w' := by
  have hB : Below w.heap.size w (w.alloc (.cells #[u, u'] t)) := (Below.refl _ _).alloc (Nat.le_refl _) _
  refine (openAll_err _ n v ps (hv.below hB) hl ⟨w.heap.size, 0, none⟩ 2 2 (by omega) (by simp) (fun i => if i = 0 then u else u') (fun i => if i = 0 then zs else zs') ?_ ?_ c hc he).mono ?_
  · intro i hi
    have : i = 0 ∨ i = 1 := by omega
    rcases this with rfl | rfl
    · exact World.cell?_alloc_new _ _ _ _
    · exact World.cell?_alloc_new _ _ _ _
  · intro i hi
    have : i = 0 ∨ i = 1 := by omega
    rcases this with rfl | rfl
    · exact hu.below hB
    · exact hu'.below hB
  · rintro e w' ⟨rfl, hb⟩
    exact ⟨rfl, hB.trans (hb.mono (by simp))⟩

set_option maxHeartbeats 4000000 in
theorem count_err (w : World) (n : Int) (v : Value) (ps : List (Int × Int)) (hv : PairsAt w v ps) (hl : ps.length ≤ 1000) (u : Value) (zs : List Int) (hu : IntsAt w u zs) (c : Int) (hc : c ≠ 0) (he : AllErr n ps 1 (fun _ => zs) c) :
    CallsIn Fence.wide 0 Tryd.prog 23 #[.int .i64 n, v, u] w fun e w' => e = .returned (.tuple #[.int .i64 0, .int .i64 c]) ∧ Below w.heap.size w w' := by
  have HC := Hid.intro (fun t => openAll_one w n v ps hv hl u zs hu c hc he t)
  obtain ⟨o1, cap1, rfl⟩ := hu.form
  clear hv hl he hu
  refine callsIn_of_wp Tryd.func23 rfl trivial ?_ rfl
  simp only [Tryd.ntmps23, List.size_toArray, List.length_cons, List.length_nil, Nat.reduceAdd, Nat.reduceSub, Array.replicate_succ, Array.replicate_zero, List.push_toArray, List.append_toArray, List.nil_append, List.cons_append]
  refine cut3 fun z => ?_
  gi_wp2_with (gi_at_call 55; refine (HC.out _).mono ?_; rintro e w1 ⟨rfl, hB⟩; have HB := Hid.intro hB; clear hB)
  all_goals (first | go_returns | go_ret | go_end0)
  all_goals exact ⟨rfl, HB.out⟩

set_option maxHeartbeats 4000000 in
theorem farthest_err (w : World) (n : Int) (v : Value) (ps : List (Int × Int)) (hv : PairsAt w v ps) (hl : ps.length ≤ 1000) (u : Value) (zs : List Int) (hu : IntsAt w u zs) (c : Int) (hc : c ≠ 0) (he : AllErr n ps 1 (fun _ => zs) c) :
    CallsIn Fence.wide 0 Tryd.prog 27 #[.int .i64 n, v, u] w fun e w' => e = .returned (.tuple #[.int .i64 0, .int .i64 0, .int .i64 c]) ∧ Below w.heap.size w w' := by
  have HC := Hid.intro (fun t => openAll_one w n v ps hv hl u zs hu c hc he t)
  obtain ⟨o1, cap1, rfl⟩ := hu.form
  clear hv hl he hu
  refine callsIn_of_wp Tryd.func27 rfl trivial ?_ rfl
  simp only [Tryd.ntmps27, List.size_toArray, List.length_cons, List.length_nil, Nat.reduceAdd, Nat.reduceSub, Array.replicate_succ, Array.replicate_zero, List.push_toArray, List.append_toArray, List.nil_append, List.cons_append]
  refine cut3 fun z => ?_
  gi_wp2_with (gi_at_call 55; refine (HC.out _).mono ?_; rintro e w1 ⟨rfl, hB⟩; have HB := Hid.intro hB; clear hB)
  all_goals (first | go_returns | go_ret | go_end0)
  all_goals exact ⟨rfl, HB.out⟩

set_option maxHeartbeats 4000000 in
theorem solve_err (w : World) (n : Int) (v : Value) (ps : List (Int × Int)) (hv : PairsAt w v ps) (hl : ps.length ≤ 1000) (u : Value) (zs : List Int) (hu : IntsAt w u zs) (u' : Value) (zs' : List Int) (hu' : IntsAt w u' zs') (c : Int) (hc : c ≠ 0) (he : AllErr n ps 2 (fun i => if i = 0 then zs else zs') c) :
    CallsIn Fence.wide 0 Tryd.prog 22 #[.int .i64 n, v, u, u'] w fun e w' => e = .returned (.tuple #[.slice none 0 0, .bool false, .int .i64 c]) ∧ Below w.heap.size w w' := by
  have HC := Hid.intro (fun t => openAll_two w n v ps hv hl u u' zs zs' hu hu' c hc he t)
  obtain ⟨o1, cap1, rfl⟩ := hu.form
  obtain ⟨o2, cap2, rfl⟩ := hu'.form
  clear hv hl he hu hu'
  refine callsIn_of_wp Tryd.func22 rfl trivial ?_ rfl
  simp only [Tryd.ntmps22, List.size_toArray, List.length_cons, List.length_nil, Nat.reduceAdd, Nat.reduceSub, Array.replicate_succ, Array.replicate_zero, List.push_toArray, List.append_toArray, List.nil_append, List.cons_append]
  refine cut3 fun z => ?_
  gi_wp2_with (gi_at_call 55; refine (HC.out _).mono ?_; rintro e w1 ⟨rfl, hB⟩; have HB := Hid.intro hB; clear hB)
  all_goals (first | go_returns | go_ret | go_end0)
  all_goals exact ⟨rfl, HB.out⟩

set_option maxHeartbeats 4000000 in
theorem reaches_err (w : World) (n : Int) (v : Value) (ps : List (Int × Int)) (hv : PairsAt w v ps) (hl : ps.length ≤ 1000) (u : Value) (zs : List Int) (hu : IntsAt w u zs) (u' : Value) (zs' : List Int) (hu' : IntsAt w u' zs') (c : Int) (hc : c ≠ 0) (he : AllErr n ps 2 (fun i => if i = 0 then zs else zs') c) :
    CallsIn Fence.wide 0 Tryd.prog 28 #[.int .i64 n, v, u, u'] w fun e w' => e = .returned (.tuple #[.bool false, .int .i64 c]) ∧ Below w.heap.size w w' := by
  have HC := Hid.intro (fun t => openAll_two w n v ps hv hl u u' zs zs' hu hu' c hc he t)
  obtain ⟨o1, cap1, rfl⟩ := hu.form
  obtain ⟨o2, cap2, rfl⟩ := hu'.form
  clear hv hl he hu hu'
  refine callsIn_of_wp Tryd.func28 rfl trivial ?_ rfl
  simp only [Tryd.ntmps28, List.size_toArray, List.length_cons, List.length_nil, Nat.reduceAdd, Nat.reduceSub, Array.replicate_succ, Array.replicate_zero, List.push_toArray, List.append_toArray, List.nil_append, List.cons_append]
  refine cut3 fun z => ?_
  gi_wp2_with (gi_at_call 55; refine (HC.out _).mono ?_; rintro e w1 ⟨rfl, hB⟩; have HB := Hid.intro hB; clear hB)
  all_goals (first | go_returns | go_ret | go_end0)
  all_goals exact ⟨rfl, HB.out⟩

set_option maxHeartbeats 4000000 in
theorem apply_err (w : World) (n : Int) (v : Value) (ps : List (Int × Int)) (hv : PairsAt w v ps) (hl : ps.length ≤ 1000) (u : Value) (zs : List Int) (hu : IntsAt w u zs) (x : Value) (c : Int) (hc : c ≠ 0) (he : AllErr n ps 1 (fun _ => zs) c) :
    CallsIn Fence.wide 0 Tryd.prog 33 #[.int .i64 n, v, u, x] w fun e w' => e = .returned (.tuple #[.slice none 0 0, .int .i64 0, .int .i64 c]) ∧ Below w.heap.size w w' := by
  have HC := Hid.intro (fun t => openAll_one w n v ps hv hl u zs hu c hc he t)
  obtain ⟨o1, cap1, rfl⟩ := hu.form
  clear hv hl he hu
  refine callsIn_of_wp Tryd.func33 rfl trivial ?_ rfl
  simp only [Tryd.ntmps33, List.size_toArray, List.length_cons, List.length_nil, Nat.reduceAdd, Nat.reduceSub, Array.replicate_succ, Array.replicate_zero, List.push_toArray, List.append_toArray, List.nil_append, List.cons_append]
  refine cut3 fun z => ?_
  gi_wp2_with (gi_at_call 55; refine (HC.out _).mono ?_; rintro e w1 ⟨rfl, hB⟩; have HB := Hid.intro hB; clear hB)
  all_goals (first | go_returns | go_ret | go_end0)
  all_goals exact ⟨rfl, HB.out⟩
end Go.Eng
