/-
  What 'list' of the law's package makes: a copy of the first numbers.
  Conditions: the list's cells are known.
-/
import Derived.Test.YtjcmalmcijpnnaaDoorChkC
import Derived.Deep.AppendSrc
import Derived.OwnWalkIn
namespace Go.Eng
open Go.RowKit Go.Proofs Go.Proofs.YtjcmalmcijpnnaaDoor

theorem t3_info : Tryd.prog.info? 3 = some Tryd.t3 := by kernel_rfl
theorem u38 : Tryd.prog.underlying 38 = some (.slice 3) := by kernel_rfl
theorem t3_zero : Tryd.t3.zero = some (.int .i64 0) := by kernel_rfl
theorem t3_size : Tryd.t3.size = 1 := by kernel_rfl
theorem t3_bytes : Tryd.t3.bytes = 8 := by kernel_rfl

/-- An append of which the run is known. -/
theorem wpListIn_append_run {F : Fence} {n : Nat} {P : Program} (w : World) {ops : Array Oper} {rest : List Oper} {o : Oper} {a : CAct} {Q : Exit → CAct → World → Prop}
    (hg : o.guard = none) (s x : Operand) (ts : Array TypeId) (hop : o.op = Op.call { callee := Callee.builtin Builtin.append, args := #[s, x], argTypes := ts })
    {u v : Value} (hs : a.eval s = u) (hx : a.eval x = v) {v' : Value} {w' : World} (hrun : (Builtin.append_ ts o.type #[u, v]).run P w = .ok v' w')
    (hK : wpListIn F n P ops Q rest (a.put o.dst v') w') :
    wpListIn F n P ops Q (o :: rest) a w := by
  refine wpListIn_plain hg fun K hK' => ?_
  unfold Oper.wpIn
  refine ⟨?_, ?_⟩
  · simp [Oper.about, hop, resolve, Target.leads, Sem.run_pure]
  · rw [Oper.semAt_plain F _ _ (by rw [hop]; intro c hc'; cases hc')]
    simp [execOp, hop, resolve, invoke, builtin, hs, hx, hrun, Result.andThen]
    exact hK' _ _ hK

/-- 'append' of the first n numbers of a list onto nothing. -/
theorem copy_run (w : World) (a : Addr) (n cap : Nat) (zs : List Int) (hn : n ≤ zs.length) (h0 : 0 < n) (h1 : n ≤ 1000) (hc : ∀ i, i < zs.length → w.cell? (a.add i) = some (.int .i64 (zs.getD i 0))) :
    ∃ v W', (Builtin.append_ #[38, 38] 38 #[.slice none 0 0, .slice (some a) n cap]).run Tryd.prog w = .ok v W' ∧ IntsAt W' v (zs.take n) ∧ Below w.heap.size w W' := by
  have hlen : ((zs.take n).map (Value.int .i64)).length = n * Tryd.t3.size := by rw [t3_size]; simp; omega
  have hnews : ∀ j u, ((zs.take n).map (Value.int .i64))[j]? = some u → w.cell? (a.add j) = some u := by
    intro j u h
    rw [List.getElem?_map, Option.map_eq_some_iff] at h
    obtain ⟨z, hz, rfl⟩ := h
    rw [List.getElem?_take] at hz
    split at hz
    · rw [hc j (by omega), List.getD_eq_getElem?_getD, hz]; rfl
    · cases hz
  have hrun := run_append_nil (P := Tryd.prog) w 38 38 3 Tryd.t3 (.int .i64 0) u38 t3_info t3_zero a n cap _ hlen hnews h0 (by omega) (by rw [t3_bytes]; omega)
  refine ⟨_, _, hrun, .inr ⟨⟨w.heap.size, 0, none⟩, grownCap w n 0 3, ?_, ?_, ?_, ?_, ?_⟩, ?_⟩
  · have : (zs.take n).length = n := by simp; omega
    rw [this]
  · have : (zs.take n).length = n := by simp; omega
    rw [this]; exact grownCap_ge w n 0 3
  · simp; omega
  · intro _; simp
  · intro i hi
    have hi' : i < n := by simp at hi; omega
    rw [show (⟨w.heap.size, 0, none⟩ : Addr).add i = ⟨w.drew.heap.size, i, none⟩ by rw [Addr.add_lit]; simp, World.cell?_alloc_new]
    rw [Array.getElem?_append_left (by simp; omega)]
    have hz : (zs.take n)[i]? = some ((zs.take n).getD i 0) := by
      rw [List.getD_eq_getElem?_getD, List.getElem?_eq_getElem hi]; rfl
    rw [List.getElem?_toArray, List.getElem?_map, hz]; rfl
  · exact (Below.refl _ _).drew.alloc (by simp) _
set_option maxHeartbeats 4000000 in
set_option maxHeartbeats 4000000 in
theorem list_walk (w : World) (a : Addr) (cap : Nat) (zs : List Int) (m : Nat) (hm : 1 ≤ m ∧ m ≤ 1000) (hl : zs.length ≤ 9223372036854775807) (h0 : 0 < zs.length) (hcap : zs.length ≤ cap) (hc : ∀ i, i < zs.length → w.cell? (a.add i) = some (.int .i64 (zs.getD i 0))) :
    CallsIn Fence.wide 0 Tryd.prog 32 #[.slice (some a) zs.length cap, .int .i64 (m : Int)] w fun e w' => ∃ v, e = .returned v ∧ IntsAt w' v (zs.take m) ∧ Below w.heap.size w w' := by
  by_cases hle : zs.length ≤ m
  · obtain ⟨v1, W1, hrun, i1, b1⟩ := copy_run w a zs.length cap zs (Nat.le_refl _) h0 (by omega) hc
    have e : zs.take m = zs.take zs.length := by rw [List.take_of_length_le (by omega), List.take_of_length_le (Nat.le_refl _)]
    rw [e]
    have HI := Hid.intro i1
    have HB := Hid.intro b1
    clear hc i1 b1 e
    refine callsIn_of_wp Tryd.func32 rfl trivial ?_ rfl
    simp only [Tryd.ntmps32, List.size_toArray, List.length_cons, List.length_nil, Nat.reduceAdd, Nat.reduceSub, Array.replicate_succ, Array.replicate_zero, List.push_toArray, List.append_toArray, List.nil_append, List.cons_append]
    gi_wp2_with (gi_at_builtin; refine wpListIn_append_run _ rfl _ _ _ rfl rfl rfl hrun ?_)
    all_goals first | (exfalso; omega) | skip
    all_goals (first | go_returns | go_ret | go_end0)
    all_goals exact ⟨_, rfl, HI.out, HB.out⟩
  · obtain ⟨v1, W1, hrun, i1, b1⟩ := copy_run w a m cap zs (by omega) (by omega) (by omega) hc
    have HI := Hid.intro i1
    have HB := Hid.intro b1
    clear hc i1 b1
    refine callsIn_of_wp Tryd.func32 rfl trivial ?_ rfl
    simp only [Tryd.ntmps32, List.size_toArray, List.length_cons, List.length_nil, Nat.reduceAdd, Nat.reduceSub, Array.replicate_succ, Array.replicate_zero, List.push_toArray, List.append_toArray, List.nil_append, List.cons_append]
    gi_wp2_with (gi_at_builtin; refine wpListIn_append_run _ rfl _ _ _ rfl rfl rfl hrun ?_)
    all_goals first | (exfalso; omega) | skip
    all_goals (first | go_returns | go_ret | go_end0)
    all_goals exact ⟨_, rfl, HI.out, HB.out⟩

theorem empty_run (w : World) (o : Option Addr) (cap : Nat) : (Builtin.append_ #[38, 38] 38 #[.slice none 0 0, .slice o 0 cap]).run Tryd.prog w = .ok (.slice none 0 0) w := by
  have hu := u38
  have hi := t3_info
  cases o <;> simp [Builtin.append_, run_underlying hu, sizeOf, typeInfo, hi, Builtin.lenOf, Builtin.firstCells, go_sem]

set_option maxHeartbeats 4000000 in
theorem list_empty (w : World) (o : Option Addr) (cap : Nat) (m : Nat) (hm : 1 ≤ m ∧ m ≤ 1000) :
    CallsIn Fence.wide 0 Tryd.prog 32 #[.slice o 0 cap, .int .i64 (m : Int)] w fun e w' => ∃ v, e = .returned v ∧ IntsAt w' v [] ∧ Below w.heap.size w w' := by
  have hrun := empty_run w o cap
  refine callsIn_of_wp Tryd.func32 rfl trivial ?_ rfl
  simp only [Tryd.ntmps32, List.size_toArray, List.length_cons, List.length_nil, Nat.reduceAdd, Nat.reduceSub, Array.replicate_succ, Array.replicate_zero, List.push_toArray, List.append_toArray, List.nil_append, List.cons_append]
  gi_wp2_with (gi_at_builtin; refine wpListIn_append_run _ rfl _ _ _ rfl rfl rfl hrun ?_)
  all_goals first | (exfalso; omega) | skip
  all_goals (first | go_returns | go_ret | go_end0)
  all_goals exact ⟨_, rfl, .inl ⟨rfl, rfl⟩, Below.refl _ _⟩

/-- **'list': a copy of the first m numbers.** -/
theorem list_calls (w : World) (v : Value) (zs : List Int) (m : Nat) (hm : 1 ≤ m ∧ m ≤ 1000) (hv : IntsAt w v zs) :
    CallsIn Fence.wide 0 Tryd.prog 32 #[v, .int .i64 (m : Int)] w fun e w' => ∃ v', e = .returned v' ∧ IntsAt w' v' (zs.take m) ∧ Below w.heap.size w w' := by
  rcases hv with ⟨rfl, rfl⟩ | ⟨a, cap, rfl, hcap, hl, ha, hc⟩
  · simpa using list_empty w none 0 m hm
  · by_cases h0 : 0 < zs.length
    · exact list_walk w a cap zs m hm hl h0 hcap hc
    · have : zs = [] := List.length_eq_zero_iff.1 (by omega)
      subst this
      simpa using list_empty w (some a) cap m hm
end Go.Eng
