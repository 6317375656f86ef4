/-
  'solve' of the program.
  Conditions: a board, two positions; the tables of math/bits hold what they are laid with.
-/
import Derived.Test.YtjcmalmcijpnnaaDoorSolX
import Derived.LoopNIn
namespace Go.Eng
open Go.RowKit Go.Proofs Go.Proofs.YtjcmalmcijpnnaaDoor

/-- What 'solve' answers. -/
def SolveSaid (qs : List (Nat × Nat)) (N : Nat) (p q : Nat → Int) (e : Ending) (w' : World) : Prop :=
  (∃ v ms, e = .returned (.tuple #[v, .bool true]) ∧ IntsAt w' v ms ∧ PathM qs N p ms q ∧ DistE (Mov qs N) p ms.length q) ∨
  ((∀ d, ¬ DistE (Mov qs N) p d q) ∧ e = .returned (.tuple #[.slice none 0 0, .bool false]))

theorem WaveAt.rebase {base base' gb g m : Nat} {ve : Value} {es : List Known} {L : List (Nat → Int)} {w : World} (h : WaveAt base gb g m ve es L w) (hb : base' ≤ base) : WaveAt base' gb g m ve es L w :=
  ⟨⟨Nat.le_trans hb h.lo.1, Nat.le_trans hb h.lo.2⟩, h.st, h.map, row_base h.row hb⟩
theorem WaveAt.later {base gb g m : Nat} {ve : Value} {es : List Known} {L : List (Nat → Int)} {w w' : World} (h : WaveAt base gb g m ve es L w) (hb : Below w.heap.size w w') : WaveAt base gb g m ve es L w' :=
  ⟨h.lo, (hb.block g (Array.getElem?_eq_some_iff.1 h.st).1).trans h.st, h.map.kept (hb.block m h.map.lt), h.row.kept (Below.grow0 hb) (by cases hv : ve.ownBlock <;> simp)⟩
theorem WaveAt.drew {base gb g m : Nat} {ve : Value} {es : List Known} {L : List (Nat → Int)} {w : World} (h : WaveAt base gb g m ve es L w) : WaveAt base gb g m ve es L w.drew := ⟨h.lo, h.st, h.map, h.row⟩
theorem boxM_ne {base gb g m M : Nat} {ve : Value} {es : List Known} {L : List (Nat → Int)} {w : World} (hp : ∃ z, PosBox w M z) (h : WaveAt base gb g m ve es L w) : M ≠ g ∧ M ≠ m := by
  obtain ⟨z, hp⟩ := hp
  obtain ⟨en, cl, hm, _⟩ := h.map
  constructor
  · intro e
    subst e
    have e3 := h.st
    rw [show w.heap[M]? = _ from hp] at e3
    injection e3 with e3
    injection e3 with _ e3
    cases e3
  · intro e
    subst e
    rw [show w.heap[M]? = _ from hp] at hm
    cases hm
theorem known_all {qs : List (Nat × Nat)} {N : Nat} (hN : N ≤ 9) {s : Nat → Int} {D : Nat} {es : List Known} {L : List (Nat → Int)} (h : WaveOK qs N s D es L) {x : Nat → Int} (hx : Pos N x) {k : Known} (hk : lookK es x = some k) : k.depth ≤ 362880 ∧ (∀ z d, DistE (Mov qs N) s d z → d ≤ k.depth → ∃ c, lookK es z = some c) := by
  have hk2 := (lookK_mem hN h.pos h.kn hx).2 k hk
  have hkd := (h.kn k hk2.1).1
  have hle : k.depth ≤ D := by
    obtain ⟨d, h1, h2⟩ := (h.wave.km k.at_).1 (List.mem_map.2 ⟨k, hk2.1, rfl⟩)
    have := h2.unique hkd
    omega
  have hall : ∀ z d, DistE (Mov qs N) s d z → d ≤ k.depth → ∃ c, lookK es z = some c := fun z d hd hdl => by
    cases hl : lookK es z with
    | some c => exact ⟨c, rfl⟩
    | none => exact absurd (h.known hd (by omega)) ((lookK_mem hN h.pos h.kn (hd.1.pos h.pos)).1.1 hl)
  refine ⟨?_, hall⟩
  have hc := (h.count hN).1
  -- as many positions as steps
  have : k.depth < es.length + 1 := by
    have hsub : (List.range (k.depth + 1)).length ≤ (es.map (·.depth)).length := nodup_len List.nodup_range fun d hd => by
      obtain ⟨t, ht⟩ := hkd.below d (by have := List.mem_range.1 hd; omega)
      obtain ⟨c, hc⟩ := hall t d ht (by have := List.mem_range.1 hd; omega)
      have hc2 := (lookK_mem hN h.pos h.kn (ht.1.pos h.pos)).2 c hc
      have hcd := (h.kn c hc2.1).1
      rw [hc2.2] at hcd
      exact List.mem_map.2 ⟨c, hc2.1, hcd.unique ht⟩
    simp at hsub
    omega
  omega
theorem two_tail {w W1 w2 w3 : World} {gb g1 m1 g2 m2 : Nat} {v1 v2 : Value} {p q : Nat → Int} (hs1 : W1.heap.size = w.heap.size + 3) (HWA : WaveAt W1.drew.heap.size gb g1 m1 v1 [⟨p, p, 0⟩] [p] w2) (HBA : Below W1.drew.heap.size W1.drew w2) (HWB : WaveAt w2.heap.size gb g2 m2 v2 [⟨q, q, 0⟩] [q] w3) (HBB : Below w2.heap.size w2 w3) :
    WaveAt (w.heap.size + 3) gb g1 m1 v1 [⟨p, p, 0⟩] [p] w3 ∧ WaveAt (w.heap.size + 3) gb g2 m2 v2 [⟨q, q, 0⟩] [q] w3 ∧ (g1 ≠ g2 ∧ m1 ≠ m2) ∧ Below (w.heap.size + 3) W1 w3 := by
  have hd : W1.drew.heap.size = W1.heap.size := rfl
  have hbz : W1.heap.size ≤ w2.heap.size := HBA.size
  have hlo1 := HWA.lo
  have hlo2 := HWB.lo
  have hg1 := HWA.edge.2.2
  have hm1 := HWA.map.lt
  exact ⟨(HWA.later HBB).rebase (by show w.heap.size + 3 ≤ W1.heap.size; omega), HWB.rebase (by omega), ⟨by omega, by omega⟩, ⟨HBB.os.trans HBA.os, HBB.tape.trans HBA.tape, HBB.output.trans HBA.output, Nat.le_trans HBA.size HBB.size, fun k hk => (HBB.block k (by omega)).trans (HBA.block k (by show k < W1.heap.size; omega))⟩⟩
theorem nine {P : Nat → Prop} (h : ∀ i, i < 9 → P i) : P 0 ∧ P 1 ∧ P 2 ∧ P 3 ∧ P 4 ∧ P 5 ∧ P 6 ∧ P 7 ∧ P 8 := ⟨h 0 (by omega), h 1 (by omega), h 2 (by omega), h 3 (by omega), h 4 (by omega), h 5 (by omega), h 6 (by omega), h 7 (by omega), h 8 (by omega)⟩
set_option maxRecDepth 100000 in
set_option maxHeartbeats 4000000 in
theorem reverse_nil (w : World) : CallsIn Fence.wide 0 Tryd.prog 68 #[.slice none 0 0] w fun e w' => (∃ v, e = .returned v) ∧ w = w' := by
  refine callsIn_of_wp Tryd.func68 rfl trivial ?_ rfl
  simp only [Tryd.ntmps68, List.size_toArray, List.length_cons, List.length_nil, Nat.reduceAdd, Nat.reduceSub, Array.replicate_succ, Array.replicate_zero, List.push_toArray, List.append_toArray, List.nil_append, List.cons_append]
  gi_wp2
  refine wpIn_loop_rounds 1 ?_
  rw [roundsIn_succ]
  gi_wp2
  all_goals (first | go_returns | go_ret | go_end0)
  exact ⟨⟨_, rfl⟩, rfl⟩
theorem reverse_out (w : World) (bo : Nat) (v : Value) (ms : List Int) (hl : ms.length ≤ 1000000) (h : OutAt w bo v ms) : CallsIn Fence.wide 0 Tryd.prog 68 #[v] w fun e w' => (∃ u, e = .returned u) ∧ OutAt w' bo v ms.reverse ∧ Below bo w w' := by
  have hbl := h.box.lt
  have hrow : w.ownsRow (bo + 1) 3 1 v ms.length (ms.map (Value.int .i64)) := h.row
  rcases hrow.2 with ⟨rfl, h0⟩ | ⟨g, cap, cur, rfl, hg, _⟩
  · have hm : ms = [] := List.length_eq_zero_iff.1 h0
    subst hm
    refine (reverse_nil w).mono ?_
    rintro e w' ⟨he, rfl⟩
    exact ⟨he, h, Below.refl _ _⟩
  · refine (reverse_calls w (bo + 1) g ms.length cap ms rfl hl h.row).mono ?_
    rintro e w' ⟨he, hn, hgr⟩
    exact ⟨he, ⟨h.box.kept hgr (fun e => by cases e; omega), hn⟩, (Below.refl bo w).grown hgr (by omega) (fun k e => by cases e; omega)⟩
/-- Between two rounds of the search. -/
structure TwoAt (qs : List (Nat × Nat)) (N : Nat) (p q : Nat → Int) (B gb g1 m1 g2 m2 M : Nat) (D1 D2 : Nat) (es1 es2 : List Known) (L1 L2 : List (Nat → Int)) (w wr : World) : Prop where
  w1 : ∃ v, WaveAt B gb g1 m1 v es1 L1 wr ∧ v.ownBlock ≠ some M
  w2 : ∃ v, WaveAt B gb g2 m2 v es2 L2 wr ∧ v.ownBlock ≠ some M
  k1 : WaveOK qs N p D1 es1 L1
  k2 : WaveOK qs N q D2 es2 L2
  ne : g1 ≠ g2 ∧ m1 ≠ m2
  box : ∃ z, PosBox wr M z ∧ B ≤ M
  low : Below B w wr

/-- What stands when both waves are made. -/
def StartTwo (w W1 : World) (gb : Nat) (p q : Nat → Int) (a' : CAct) (w' : World) : Prop :=
  ∃ g1 m1 v1 g2 m2 v2, a' = { tmps := #[.pointer (some ⟨gb, 0, none⟩), .agg (pos9 p), .agg (pos9 q), .pointer (some ⟨w.heap.size, 0, none⟩), .pointer (some ⟨w.heap.size + 1, 0, none⟩), .pointer (some ⟨w.heap.size + 2, 0, none⟩), .slice none 0 0, .bool false, .pointer (some ⟨g1, 0, none⟩), .pointer (some ⟨g2, 0, none⟩), undef, undef, undef, undef, undef, undef, undef, undef, undef, undef, undef, .agg (pos9 p), .agg (pos9 q), .bool false, .pointer (some ⟨gb, 0, none⟩), .agg (pos9 p), .pointer (some ⟨g1, 0, none⟩), .pointer (some ⟨gb, 0, none⟩), .agg (pos9 q), .pointer (some ⟨g2, 0, none⟩), undef, undef, undef, undef, undef, undef, undef, undef, undef, undef, undef, undef, undef, undef, undef, undef, undef, undef, undef, undef, undef, undef, undef, undef, undef, undef, undef, undef, undef, undef, undef, undef, undef, undef, undef, undef, undef, undef, undef, undef, undef, undef, undef, undef, undef, undef, undef, undef, undef, undef, undef, undef, undef, undef, undef, undef, undef, undef, undef, undef, undef, undef, undef, undef, undef, undef, undef, undef], defers := [] } ∧ WaveAt (w.heap.size + 3) gb g1 m1 v1 [⟨p, p, 0⟩] [p] w' ∧ WaveAt (w.heap.size + 3) gb g2 m2 v2 [⟨q, q, 0⟩] [q] w' ∧ (g1 ≠ g2 ∧ m1 ≠ m2) ∧ Below (w.heap.size + 3) W1 w'

set_option maxRecDepth 100000 in
set_option maxHeartbeats 16000000 in
/-- **'solve'.** -/
theorem solve_calls (w : World) (hT : TabsIn w) (gb N : Nat) (hN : 2 ≤ N ∧ N ≤ 9) (qs : List (Nat × Nat)) (hq : ∀ q ∈ qs, q.1 < q.2 ∧ q.2 < N) (hbd : BoardAt w gb N (nxs qs)) (p q : Nat → Int) (hp : Pos N p) (hp2 : Pos N q) :
    CallsIn Fence.wide 0 Tryd.prog 56 #[.pointer (some ⟨gb, 0, none⟩), .agg (pos9 p), .agg (pos9 q)] w fun e w' => SolveSaid qs N p q e w' ∧ Below w.heap.size w w' := by
  have HT := Hid.intro hT
  have h2 := hT.lt
  have HQ := Hid.intro hq
  have HBD := Hid.intro hbd
  have HP := Hid.intro hp
  have HP2 := Hid.intro hp2
  have hgb : gb < w.heap.size := World.block_lt_of_cell? _ _ hbd.n
  obtain ⟨W1, hW1⟩ : ∃ W1, W1 = ((w.alloc (.cells #[.pointer (some ⟨gb, 0, none⟩)] 78)).alloc (.cells (pos9 p) 83)).alloc (.cells (pos9 q) 83) := ⟨_, rfl⟩
  have hs1 : W1.heap.size = w.heap.size + 3 := by rw [hW1]; simp
  have HB1 : Hid (Below w.heap.size w W1) := by rw [hW1]; exact (((Below.refl _ w).alloc (Nat.le_refl _) _).alloc (by simp) _).alloc (by simp; omega) _
  have HX0 : Hid (Boxed W1 w.heap.size 78 (.pointer (some ⟨gb, 0, none⟩))) := by rw [hW1]; exact ((Boxed.new w 78 _).alloc _).alloc _
  have HX1 : Hid (PosBox W1 (w.heap.size + 1) p) := by
    have := World.alloc_heap_new (w.alloc (.cells #[.pointer (some ⟨gb, 0, none⟩)] 78)) (.cells (pos9 p) 83)
    rw [World.size_alloc] at this
    rw [hW1]; exact (Below.heap_alloc _ _ _ (by simp)).trans this
  have HX2 : Hid (PosBox W1 (w.heap.size + 2) q) := by
    have := World.alloc_heap_new ((w.alloc (.cells #[.pointer (some ⟨gb, 0, none⟩)] 78)).alloc (.cells (pos9 p) 83)) (.cells (pos9 q) 83)
    rw [World.size_alloc, World.size_alloc] at this
    rw [hW1]; exact this
  have HW1 := Hid.intro hW1
  clear hT hq hbd hp hp2 hW1
  refine callsIn_of_wp Tryd.func56 rfl trivial ?_ rfl
  simp only [Tryd.ntmps56, List.size_toArray, List.length_cons, List.length_nil, Nat.reduceAdd, Nat.reduceSub, Array.replicate_succ, Array.replicate_zero, List.push_toArray, List.append_toArray, List.nil_append, List.cons_append]
  have hx0 := HX0.out.cell
  have hx1 := HX1.out.cell
  have hx2 := HX2.out.cell
  have p0 := hx1 0 (by omega)
  have p1 := hx1 1 (by omega)
  have p2 := hx1 2 (by omega)
  have p3 := hx1 3 (by omega)
  have p4 := hx1 4 (by omega)
  have p5 := hx1 5 (by omega)
  have p6 := hx1 6 (by omega)
  have p7 := hx1 7 (by omega)
  have p8 := hx1 8 (by omega)
  have q0 := hx2 0 (by omega)
  have q1 := hx2 1 (by omega)
  have q2 := hx2 2 (by omega)
  have q3 := hx2 3 (by omega)
  have q4 := hx2 4 (by omega)
  have q5 := hx2 5 (by omega)
  have q6 := hx2 6 (by omega)
  have q7 := hx2 7 (by omega)
  have q8 := hx2 8 (by omega)
  have heq : (Op.equalIn 10000 83 (.agg (pos9 p)) (.agg (pos9 q))).run Tryd.prog W1 = .ok (same9 p q) W1 := equal_run (avk_fits p) (avk_fits q) (avk_VR p) (avk_VR q) 9998 W1
  clear hx1 hx2
  gi_wp2
  rw [← HW1.out]
  refine wpIn_scope ?_
  have HRUN := Hid.intro (eql83_run (.tmp 21) (.tmp 22) p q W1)
  clear heq
  cases hpq : same9 p q with
  | true =>
    have HPQ := Hid.intro hpq
    rw [hpq] at HRUN
    clear hpq
    unfold pos9 at HRUN
    gi_wp2_with (refine wpListIn_bin_run _ rfl .eql 83 _ (.tmp 21) (.tmp 22) rfl rfl rfl HRUN.out ?_)
    simp only [noGoto]
    all_goals (first | go_returns | go_ret | go_end0)
    have e := (same9_eq hN.2 HP.out HP2.out).1 HPQ.out
    subst e
    exact ⟨.inl ⟨_, [], rfl, .inl ⟨rfl, rfl⟩, rfl, DistE.zero⟩, HB1.out⟩
  | false =>
    have HPQ := Hid.intro hpq
    rw [hpq] at HRUN
    clear hpq
    unfold pos9 at HRUN
    gi_wp2_with (refine wpListIn_bin_run _ rfl .eql 83 _ (.tmp 21) (.tmp 22) rfl rfl rfl HRUN.out ?_)
    have HN1 := Hid.intro (newWave_calls W1.drew gb p)
    have HN2 : Hid (∀ w', CallsIn Fence.wide 0 Tryd.prog 50 #[.pointer (some ⟨gb, 0, none⟩), .agg (pos9 q)] w' _) := fun w' => newWave_calls w' gb q
    unfold pos9 at HN1 HN2
    refine region_rel (StartTwo w W1 gb p q) ?rest ?reg
    case reg =>
      unfold pos9
      refine wpIn_region_any (by kernel_rfl) ?_
      change wpAnyIn _ _ _ _ _ _ _ _ _ (World.drew _)
      refine wpAnyIn_ready (rs := [0, 1, 3, 4]) (by kernel_rfl) (by simp) ?_
      refine AllReadyIn.cons rfl (fun K hK => ?_) ?_
      ·go_simp
       refine hK _ _ ?_
       clear hK K
       refine wpAnyIn_ready (rs := [1, 3, 4]) (by kernel_rfl) (by simp) ?_
       refine AllReadyIn.cons rfl (fun K hK => ?_) ?_
       ·go_simp
        refine hK _ _ ?_
        clear hK K
        refine wpAnyIn_ready (rs := [2, 3, 4]) (by kernel_rfl) (by simp) ?_
        refine AllReadyIn.cons rfl (fun K hK => ?_) ?_
        ·go_simp
         (refine HN1.out.mono ?_; rintro e w2 ⟨g1, m1, v1, rfl, hw1, hb2⟩; have HWA := Hid.intro hw1; have HBA := Hid.intro hb2; have hb2' : Below W1.heap.size W1 w2 := ⟨hb2.os, hb2.tape, hb2.output, hb2.size, hb2.block⟩; have hx0' := (HX0.out.kept (Below.grow0 hb2') (by simp)).cell; have hx2' := (HX2.out.below hb2').cell; obtain ⟨q0', q1', q2', q3', q4', q5', q6', q7', q8'⟩ := nine hx2'; clear hw1 hb2 hb2' hx2')
         dsimp only
         refine hK _ _ ?_
         clear hK K
         refine wpAnyIn_ready (rs := [3, 4]) (by kernel_rfl) (by simp) ?_
         refine AllReadyIn.cons rfl (fun K hK => ?_) ?_
         ·go_simp
          refine hK _ _ ?_
          clear hK K
          refine wpAnyIn_ready (rs := [4]) (by kernel_rfl) (by simp) ?_
          refine AllReadyIn.cons rfl (fun K hK => ?_) ?_
          ·go_simp
           refine hK _ _ ?_
           clear hK K
           refine wpAnyIn_ready (rs := [5]) (by kernel_rfl) (by simp) ?_
           refine AllReadyIn.cons rfl (fun K hK => ?_) ?_
           ·go_simp
            (refine (HN2.out _).mono ?_; rintro e w3 ⟨g2, m2, v2, rfl, hw2, hb3⟩; have HWB := Hid.intro hw2; have HBB := Hid.intro hb3; clear hw2 hb3)
            dsimp only
            refine hK _ _ ?_
            clear hK K
            refine wpAnyIn_ready (rs := [6]) (by kernel_rfl) (by simp) ?_
            refine AllReadyIn.cons rfl (fun K hK => ?_) ?_
            ·go_simp
             refine hK _ _ ?_
             clear hK K
             refine wpAnyIn_ready (rs := [7]) (by kernel_rfl) (by simp) ?_
             refine AllReadyIn.cons rfl (fun K hK => ?_) ?_
             ·go_simp
              refine hK _ _ ?_
              clear hK K
              refine wpAnyIn_done (by kernel_rfl) ?_ _
              gi_wp2
              exact ⟨g1, m1, v1, g2, m2, v2, rfl, two_tail hs1 HWA.out HBA.out HWB.out HBB.out⟩
             exact AllReadyIn.nil
            exact AllReadyIn.nil
           exact AllReadyIn.nil
          exact AllReadyIn.nil
         refine AllReadyIn.cons rfl (fun K hK => ?_) ?_
         ·go_simp
          refine hK _ _ ?_
          clear hK K
          refine wpAnyIn_ready (rs := [3]) (by kernel_rfl) (by simp) ?_
          refine AllReadyIn.cons rfl (fun K hK => ?_) ?_
          ·go_simp
           refine hK _ _ ?_
           clear hK K
           refine wpAnyIn_ready (rs := [5]) (by kernel_rfl) (by simp) ?_
           refine AllReadyIn.cons rfl (fun K hK => ?_) ?_
           ·go_simp
            (refine (HN2.out _).mono ?_; rintro e w3 ⟨g2, m2, v2, rfl, hw2, hb3⟩; have HWB := Hid.intro hw2; have HBB := Hid.intro hb3; clear hw2 hb3)
            dsimp only
            refine hK _ _ ?_
            clear hK K
            refine wpAnyIn_ready (rs := [6]) (by kernel_rfl) (by simp) ?_
            refine AllReadyIn.cons rfl (fun K hK => ?_) ?_
            ·go_simp
             refine hK _ _ ?_
             clear hK K
             refine wpAnyIn_ready (rs := [7]) (by kernel_rfl) (by simp) ?_
             refine AllReadyIn.cons rfl (fun K hK => ?_) ?_
             ·go_simp
              refine hK _ _ ?_
              clear hK K
              refine wpAnyIn_done (by kernel_rfl) ?_ _
              gi_wp2
              exact ⟨g1, m1, v1, g2, m2, v2, rfl, two_tail hs1 HWA.out HBA.out HWB.out HBB.out⟩
             exact AllReadyIn.nil
            exact AllReadyIn.nil
           exact AllReadyIn.nil
          exact AllReadyIn.nil
         exact AllReadyIn.nil
        refine AllReadyIn.cons rfl (fun K hK => ?_) ?_
        ·go_simp
         refine hK _ _ ?_
         clear hK K
         refine wpAnyIn_ready (rs := [2, 4]) (by kernel_rfl) (by simp) ?_
         refine AllReadyIn.cons rfl (fun K hK => ?_) ?_
         ·go_simp
          (refine HN1.out.mono ?_; rintro e w2 ⟨g1, m1, v1, rfl, hw1, hb2⟩; have HWA := Hid.intro hw1; have HBA := Hid.intro hb2; have hb2' : Below W1.heap.size W1 w2 := ⟨hb2.os, hb2.tape, hb2.output, hb2.size, hb2.block⟩; have hx0' := (HX0.out.kept (Below.grow0 hb2') (by simp)).cell; have hx2' := (HX2.out.below hb2').cell; obtain ⟨q0', q1', q2', q3', q4', q5', q6', q7', q8'⟩ := nine hx2'; clear hw1 hb2 hb2' hx2')
          dsimp only
          refine hK _ _ ?_
          clear hK K
          refine wpAnyIn_ready (rs := [4]) (by kernel_rfl) (by simp) ?_
          refine AllReadyIn.cons rfl (fun K hK => ?_) ?_
          ·go_simp
           refine hK _ _ ?_
           clear hK K
           refine wpAnyIn_ready (rs := [5]) (by kernel_rfl) (by simp) ?_
           refine AllReadyIn.cons rfl (fun K hK => ?_) ?_
           ·go_simp
            (refine (HN2.out _).mono ?_; rintro e w3 ⟨g2, m2, v2, rfl, hw2, hb3⟩; have HWB := Hid.intro hw2; have HBB := Hid.intro hb3; clear hw2 hb3)
            dsimp only
            refine hK _ _ ?_
            clear hK K
            refine wpAnyIn_ready (rs := [6]) (by kernel_rfl) (by simp) ?_
            refine AllReadyIn.cons rfl (fun K hK => ?_) ?_
            ·go_simp
             refine hK _ _ ?_
             clear hK K
             refine wpAnyIn_ready (rs := [7]) (by kernel_rfl) (by simp) ?_
             refine AllReadyIn.cons rfl (fun K hK => ?_) ?_
             ·go_simp
              refine hK _ _ ?_
              clear hK K
              refine wpAnyIn_done (by kernel_rfl) ?_ _
              gi_wp2
              exact ⟨g1, m1, v1, g2, m2, v2, rfl, two_tail hs1 HWA.out HBA.out HWB.out HBB.out⟩
             exact AllReadyIn.nil
            exact AllReadyIn.nil
           exact AllReadyIn.nil
          exact AllReadyIn.nil
         refine AllReadyIn.cons rfl (fun K hK => ?_) ?_
         ·go_simp
          refine hK _ _ ?_
          clear hK K
          refine wpAnyIn_ready (rs := [2]) (by kernel_rfl) (by simp) ?_
          refine AllReadyIn.cons rfl (fun K hK => ?_) ?_
          ·go_simp
           (refine HN1.out.mono ?_; rintro e w2 ⟨g1, m1, v1, rfl, hw1, hb2⟩; have HWA := Hid.intro hw1; have HBA := Hid.intro hb2; have hb2' : Below W1.heap.size W1 w2 := ⟨hb2.os, hb2.tape, hb2.output, hb2.size, hb2.block⟩; have hx0' := (HX0.out.kept (Below.grow0 hb2') (by simp)).cell; have hx2' := (HX2.out.below hb2').cell; obtain ⟨q0', q1', q2', q3', q4', q5', q6', q7', q8'⟩ := nine hx2'; clear hw1 hb2 hb2' hx2')
           dsimp only
           refine hK _ _ ?_
           clear hK K
           refine wpAnyIn_ready (rs := [5]) (by kernel_rfl) (by simp) ?_
           refine AllReadyIn.cons rfl (fun K hK => ?_) ?_
           ·go_simp
            (refine (HN2.out _).mono ?_; rintro e w3 ⟨g2, m2, v2, rfl, hw2, hb3⟩; have HWB := Hid.intro hw2; have HBB := Hid.intro hb3; clear hw2 hb3)
            dsimp only
            refine hK _ _ ?_
            clear hK K
            refine wpAnyIn_ready (rs := [6]) (by kernel_rfl) (by simp) ?_
            refine AllReadyIn.cons rfl (fun K hK => ?_) ?_
            ·go_simp
             refine hK _ _ ?_
             clear hK K
             refine wpAnyIn_ready (rs := [7]) (by kernel_rfl) (by simp) ?_
             refine AllReadyIn.cons rfl (fun K hK => ?_) ?_
             ·go_simp
              refine hK _ _ ?_
              clear hK K
              refine wpAnyIn_done (by kernel_rfl) ?_ _
              gi_wp2
              exact ⟨g1, m1, v1, g2, m2, v2, rfl, two_tail hs1 HWA.out HBA.out HWB.out HBB.out⟩
             exact AllReadyIn.nil
            exact AllReadyIn.nil
           exact AllReadyIn.nil
          exact AllReadyIn.nil
         exact AllReadyIn.nil
        refine AllReadyIn.cons rfl (fun K hK => ?_) ?_
        ·go_simp
         refine hK _ _ ?_
         clear hK K
         refine wpAnyIn_ready (rs := [2, 3]) (by kernel_rfl) (by simp) ?_
         refine AllReadyIn.cons rfl (fun K hK => ?_) ?_
         ·go_simp
          (refine HN1.out.mono ?_; rintro e w2 ⟨g1, m1, v1, rfl, hw1, hb2⟩; have HWA := Hid.intro hw1; have HBA := Hid.intro hb2; have hb2' : Below W1.heap.size W1 w2 := ⟨hb2.os, hb2.tape, hb2.output, hb2.size, hb2.block⟩; have hx0' := (HX0.out.kept (Below.grow0 hb2') (by simp)).cell; have hx2' := (HX2.out.below hb2').cell; obtain ⟨q0', q1', q2', q3', q4', q5', q6', q7', q8'⟩ := nine hx2'; clear hw1 hb2 hb2' hx2')
          dsimp only
          refine hK _ _ ?_
          clear hK K
          refine wpAnyIn_ready (rs := [3]) (by kernel_rfl) (by simp) ?_
          refine AllReadyIn.cons rfl (fun K hK => ?_) ?_
          ·go_simp
           refine hK _ _ ?_
           clear hK K
           refine wpAnyIn_ready (rs := [5]) (by kernel_rfl) (by simp) ?_
           refine AllReadyIn.cons rfl (fun K hK => ?_) ?_
           ·go_simp
            (refine (HN2.out _).mono ?_; rintro e w3 ⟨g2, m2, v2, rfl, hw2, hb3⟩; have HWB := Hid.intro hw2; have HBB := Hid.intro hb3; clear hw2 hb3)
            dsimp only
            refine hK _ _ ?_
            clear hK K
            refine wpAnyIn_ready (rs := [6]) (by kernel_rfl) (by simp) ?_
            refine AllReadyIn.cons rfl (fun K hK => ?_) ?_
            ·go_simp
             refine hK _ _ ?_
             clear hK K
             refine wpAnyIn_ready (rs := [7]) (by kernel_rfl) (by simp) ?_
             refine AllReadyIn.cons rfl (fun K hK => ?_) ?_
             ·go_simp
              refine hK _ _ ?_
              clear hK K
              refine wpAnyIn_done (by kernel_rfl) ?_ _
              gi_wp2
              exact ⟨g1, m1, v1, g2, m2, v2, rfl, two_tail hs1 HWA.out HBA.out HWB.out HBB.out⟩
             exact AllReadyIn.nil
            exact AllReadyIn.nil
           exact AllReadyIn.nil
          exact AllReadyIn.nil
         refine AllReadyIn.cons rfl (fun K hK => ?_) ?_
         ·go_simp
          refine hK _ _ ?_
          clear hK K
          refine wpAnyIn_ready (rs := [2]) (by kernel_rfl) (by simp) ?_
          refine AllReadyIn.cons rfl (fun K hK => ?_) ?_
          ·go_simp
           (refine HN1.out.mono ?_; rintro e w2 ⟨g1, m1, v1, rfl, hw1, hb2⟩; have HWA := Hid.intro hw1; have HBA := Hid.intro hb2; have hb2' : Below W1.heap.size W1 w2 := ⟨hb2.os, hb2.tape, hb2.output, hb2.size, hb2.block⟩; have hx0' := (HX0.out.kept (Below.grow0 hb2') (by simp)).cell; have hx2' := (HX2.out.below hb2').cell; obtain ⟨q0', q1', q2', q3', q4', q5', q6', q7', q8'⟩ := nine hx2'; clear hw1 hb2 hb2' hx2')
           dsimp only
           refine hK _ _ ?_
           clear hK K
           refine wpAnyIn_ready (rs := [5]) (by kernel_rfl) (by simp) ?_
           refine AllReadyIn.cons rfl (fun K hK => ?_) ?_
           ·go_simp
            (refine (HN2.out _).mono ?_; rintro e w3 ⟨g2, m2, v2, rfl, hw2, hb3⟩; have HWB := Hid.intro hw2; have HBB := Hid.intro hb3; clear hw2 hb3)
            dsimp only
            refine hK _ _ ?_
            clear hK K
            refine wpAnyIn_ready (rs := [6]) (by kernel_rfl) (by simp) ?_
            refine AllReadyIn.cons rfl (fun K hK => ?_) ?_
            ·go_simp
             refine hK _ _ ?_
             clear hK K
             refine wpAnyIn_ready (rs := [7]) (by kernel_rfl) (by simp) ?_
             refine AllReadyIn.cons rfl (fun K hK => ?_) ?_
             ·go_simp
              refine hK _ _ ?_
              clear hK K
              refine wpAnyIn_done (by kernel_rfl) ?_ _
              gi_wp2
              exact ⟨g1, m1, v1, g2, m2, v2, rfl, two_tail hs1 HWA.out HBA.out HWB.out HBB.out⟩
             exact AllReadyIn.nil
            exact AllReadyIn.nil
           exact AllReadyIn.nil
          exact AllReadyIn.nil
         exact AllReadyIn.nil
        exact AllReadyIn.nil
       refine AllReadyIn.cons rfl (fun K hK => ?_) ?_
       ·go_simp
        refine hK _ _ ?_
        clear hK K
        refine wpAnyIn_ready (rs := [1, 4]) (by kernel_rfl) (by simp) ?_
        refine AllReadyIn.cons rfl (fun K hK => ?_) ?_
        ·go_simp
         refine hK _ _ ?_
         clear hK K
         refine wpAnyIn_ready (rs := [2, 4]) (by kernel_rfl) (by simp) ?_
         refine AllReadyIn.cons rfl (fun K hK => ?_) ?_
         ·go_simp
          (refine HN1.out.mono ?_; rintro e w2 ⟨g1, m1, v1, rfl, hw1, hb2⟩; have HWA := Hid.intro hw1; have HBA := Hid.intro hb2; have hb2' : Below W1.heap.size W1 w2 := ⟨hb2.os, hb2.tape, hb2.output, hb2.size, hb2.block⟩; have hx0' := (HX0.out.kept (Below.grow0 hb2') (by simp)).cell; have hx2' := (HX2.out.below hb2').cell; obtain ⟨q0', q1', q2', q3', q4', q5', q6', q7', q8'⟩ := nine hx2'; clear hw1 hb2 hb2' hx2')
          dsimp only
          refine hK _ _ ?_
          clear hK K
          refine wpAnyIn_ready (rs := [4]) (by kernel_rfl) (by simp) ?_
          refine AllReadyIn.cons rfl (fun K hK => ?_) ?_
          ·go_simp
           refine hK _ _ ?_
           clear hK K
           refine wpAnyIn_ready (rs := [5]) (by kernel_rfl) (by simp) ?_
           refine AllReadyIn.cons rfl (fun K hK => ?_) ?_
           ·go_simp
            (refine (HN2.out _).mono ?_; rintro e w3 ⟨g2, m2, v2, rfl, hw2, hb3⟩; have HWB := Hid.intro hw2; have HBB := Hid.intro hb3; clear hw2 hb3)
            dsimp only
            refine hK _ _ ?_
            clear hK K
            refine wpAnyIn_ready (rs := [6]) (by kernel_rfl) (by simp) ?_
            refine AllReadyIn.cons rfl (fun K hK => ?_) ?_
            ·go_simp
             refine hK _ _ ?_
             clear hK K
             refine wpAnyIn_ready (rs := [7]) (by kernel_rfl) (by simp) ?_
             refine AllReadyIn.cons rfl (fun K hK => ?_) ?_
             ·go_simp
              refine hK _ _ ?_
              clear hK K
              refine wpAnyIn_done (by kernel_rfl) ?_ _
              gi_wp2
              exact ⟨g1, m1, v1, g2, m2, v2, rfl, two_tail hs1 HWA.out HBA.out HWB.out HBB.out⟩
             exact AllReadyIn.nil
            exact AllReadyIn.nil
           exact AllReadyIn.nil
          exact AllReadyIn.nil
         refine AllReadyIn.cons rfl (fun K hK => ?_) ?_
         ·go_simp
          refine hK _ _ ?_
          clear hK K
          refine wpAnyIn_ready (rs := [2]) (by kernel_rfl) (by simp) ?_
          refine AllReadyIn.cons rfl (fun K hK => ?_) ?_
          ·go_simp
           (refine HN1.out.mono ?_; rintro e w2 ⟨g1, m1, v1, rfl, hw1, hb2⟩; have HWA := Hid.intro hw1; have HBA := Hid.intro hb2; have hb2' : Below W1.heap.size W1 w2 := ⟨hb2.os, hb2.tape, hb2.output, hb2.size, hb2.block⟩; have hx0' := (HX0.out.kept (Below.grow0 hb2') (by simp)).cell; have hx2' := (HX2.out.below hb2').cell; obtain ⟨q0', q1', q2', q3', q4', q5', q6', q7', q8'⟩ := nine hx2'; clear hw1 hb2 hb2' hx2')
           dsimp only
           refine hK _ _ ?_
           clear hK K
           refine wpAnyIn_ready (rs := [5]) (by kernel_rfl) (by simp) ?_
           refine AllReadyIn.cons rfl (fun K hK => ?_) ?_
           ·go_simp
            (refine (HN2.out _).mono ?_; rintro e w3 ⟨g2, m2, v2, rfl, hw2, hb3⟩; have HWB := Hid.intro hw2; have HBB := Hid.intro hb3; clear hw2 hb3)
            dsimp only
            refine hK _ _ ?_
            clear hK K
            refine wpAnyIn_ready (rs := [6]) (by kernel_rfl) (by simp) ?_
            refine AllReadyIn.cons rfl (fun K hK => ?_) ?_
            ·go_simp
             refine hK _ _ ?_
             clear hK K
             refine wpAnyIn_ready (rs := [7]) (by kernel_rfl) (by simp) ?_
             refine AllReadyIn.cons rfl (fun K hK => ?_) ?_
             ·go_simp
              refine hK _ _ ?_
              clear hK K
              refine wpAnyIn_done (by kernel_rfl) ?_ _
              gi_wp2
              exact ⟨g1, m1, v1, g2, m2, v2, rfl, two_tail hs1 HWA.out HBA.out HWB.out HBB.out⟩
             exact AllReadyIn.nil
            exact AllReadyIn.nil
           exact AllReadyIn.nil
          exact AllReadyIn.nil
         exact AllReadyIn.nil
        refine AllReadyIn.cons rfl (fun K hK => ?_) ?_
        ·go_simp
         refine hK _ _ ?_
         clear hK K
         refine wpAnyIn_ready (rs := [1]) (by kernel_rfl) (by simp) ?_
         refine AllReadyIn.cons rfl (fun K hK => ?_) ?_
         ·go_simp
          refine hK _ _ ?_
          clear hK K
          refine wpAnyIn_ready (rs := [2]) (by kernel_rfl) (by simp) ?_
          refine AllReadyIn.cons rfl (fun K hK => ?_) ?_
          ·go_simp
           (refine HN1.out.mono ?_; rintro e w2 ⟨g1, m1, v1, rfl, hw1, hb2⟩; have HWA := Hid.intro hw1; have HBA := Hid.intro hb2; have hb2' : Below W1.heap.size W1 w2 := ⟨hb2.os, hb2.tape, hb2.output, hb2.size, hb2.block⟩; have hx0' := (HX0.out.kept (Below.grow0 hb2') (by simp)).cell; have hx2' := (HX2.out.below hb2').cell; obtain ⟨q0', q1', q2', q3', q4', q5', q6', q7', q8'⟩ := nine hx2'; clear hw1 hb2 hb2' hx2')
           dsimp only
           refine hK _ _ ?_
           clear hK K
           refine wpAnyIn_ready (rs := [5]) (by kernel_rfl) (by simp) ?_
           refine AllReadyIn.cons rfl (fun K hK => ?_) ?_
           ·go_simp
            (refine (HN2.out _).mono ?_; rintro e w3 ⟨g2, m2, v2, rfl, hw2, hb3⟩; have HWB := Hid.intro hw2; have HBB := Hid.intro hb3; clear hw2 hb3)
            dsimp only
            refine hK _ _ ?_
            clear hK K
            refine wpAnyIn_ready (rs := [6]) (by kernel_rfl) (by simp) ?_
            refine AllReadyIn.cons rfl (fun K hK => ?_) ?_
            ·go_simp
             refine hK _ _ ?_
             clear hK K
             refine wpAnyIn_ready (rs := [7]) (by kernel_rfl) (by simp) ?_
             refine AllReadyIn.cons rfl (fun K hK => ?_) ?_
             ·go_simp
              refine hK _ _ ?_
              clear hK K
              refine wpAnyIn_done (by kernel_rfl) ?_ _
              gi_wp2
              exact ⟨g1, m1, v1, g2, m2, v2, rfl, two_tail hs1 HWA.out HBA.out HWB.out HBB.out⟩
             exact AllReadyIn.nil
            exact AllReadyIn.nil
           exact AllReadyIn.nil
          exact AllReadyIn.nil
         exact AllReadyIn.nil
        exact AllReadyIn.nil
       refine AllReadyIn.cons rfl (fun K hK => ?_) ?_
       ·go_simp
        refine hK _ _ ?_
        clear hK K
        refine wpAnyIn_ready (rs := [1, 3]) (by kernel_rfl) (by simp) ?_
        refine AllReadyIn.cons rfl (fun K hK => ?_) ?_
        ·go_simp
         refine hK _ _ ?_
         clear hK K
         refine wpAnyIn_ready (rs := [2, 3]) (by kernel_rfl) (by simp) ?_
         refine AllReadyIn.cons rfl (fun K hK => ?_) ?_
         ·go_simp
          (refine HN1.out.mono ?_; rintro e w2 ⟨g1, m1, v1, rfl, hw1, hb2⟩; have HWA := Hid.intro hw1; have HBA := Hid.intro hb2; have hb2' : Below W1.heap.size W1 w2 := ⟨hb2.os, hb2.tape, hb2.output, hb2.size, hb2.block⟩; have hx0' := (HX0.out.kept (Below.grow0 hb2') (by simp)).cell; have hx2' := (HX2.out.below hb2').cell; obtain ⟨q0', q1', q2', q3', q4', q5', q6', q7', q8'⟩ := nine hx2'; clear hw1 hb2 hb2' hx2')
          dsimp only
          refine hK _ _ ?_
          clear hK K
          refine wpAnyIn_ready (rs := [3]) (by kernel_rfl) (by simp) ?_
          refine AllReadyIn.cons rfl (fun K hK => ?_) ?_
          ·go_simp
           refine hK _ _ ?_
           clear hK K
           refine wpAnyIn_ready (rs := [5]) (by kernel_rfl) (by simp) ?_
           refine AllReadyIn.cons rfl (fun K hK => ?_) ?_
           ·go_simp
            (refine (HN2.out _).mono ?_; rintro e w3 ⟨g2, m2, v2, rfl, hw2, hb3⟩; have HWB := Hid.intro hw2; have HBB := Hid.intro hb3; clear hw2 hb3)
            dsimp only
            refine hK _ _ ?_
            clear hK K
            refine wpAnyIn_ready (rs := [6]) (by kernel_rfl) (by simp) ?_
            refine AllReadyIn.cons rfl (fun K hK => ?_) ?_
            ·go_simp
             refine hK _ _ ?_
             clear hK K
             refine wpAnyIn_ready (rs := [7]) (by kernel_rfl) (by simp) ?_
             refine AllReadyIn.cons rfl (fun K hK => ?_) ?_
             ·go_simp
              refine hK _ _ ?_
              clear hK K
              refine wpAnyIn_done (by kernel_rfl) ?_ _
              gi_wp2
              exact ⟨g1, m1, v1, g2, m2, v2, rfl, two_tail hs1 HWA.out HBA.out HWB.out HBB.out⟩
             exact AllReadyIn.nil
            exact AllReadyIn.nil
           exact AllReadyIn.nil
          exact AllReadyIn.nil
         refine AllReadyIn.cons rfl (fun K hK => ?_) ?_
         ·go_simp
          refine hK _ _ ?_
          clear hK K
          refine wpAnyIn_ready (rs := [2]) (by kernel_rfl) (by simp) ?_
          refine AllReadyIn.cons rfl (fun K hK => ?_) ?_
          ·go_simp
           (refine HN1.out.mono ?_; rintro e w2 ⟨g1, m1, v1, rfl, hw1, hb2⟩; have HWA := Hid.intro hw1; have HBA := Hid.intro hb2; have hb2' : Below W1.heap.size W1 w2 := ⟨hb2.os, hb2.tape, hb2.output, hb2.size, hb2.block⟩; have hx0' := (HX0.out.kept (Below.grow0 hb2') (by simp)).cell; have hx2' := (HX2.out.below hb2').cell; obtain ⟨q0', q1', q2', q3', q4', q5', q6', q7', q8'⟩ := nine hx2'; clear hw1 hb2 hb2' hx2')
           dsimp only
           refine hK _ _ ?_
           clear hK K
           refine wpAnyIn_ready (rs := [5]) (by kernel_rfl) (by simp) ?_
           refine AllReadyIn.cons rfl (fun K hK => ?_) ?_
           ·go_simp
            (refine (HN2.out _).mono ?_; rintro e w3 ⟨g2, m2, v2, rfl, hw2, hb3⟩; have HWB := Hid.intro hw2; have HBB := Hid.intro hb3; clear hw2 hb3)
            dsimp only
            refine hK _ _ ?_
            clear hK K
            refine wpAnyIn_ready (rs := [6]) (by kernel_rfl) (by simp) ?_
            refine AllReadyIn.cons rfl (fun K hK => ?_) ?_
            ·go_simp
             refine hK _ _ ?_
             clear hK K
             refine wpAnyIn_ready (rs := [7]) (by kernel_rfl) (by simp) ?_
             refine AllReadyIn.cons rfl (fun K hK => ?_) ?_
             ·go_simp
              refine hK _ _ ?_
              clear hK K
              refine wpAnyIn_done (by kernel_rfl) ?_ _
              gi_wp2
              exact ⟨g1, m1, v1, g2, m2, v2, rfl, two_tail hs1 HWA.out HBA.out HWB.out HBB.out⟩
             exact AllReadyIn.nil
            exact AllReadyIn.nil
           exact AllReadyIn.nil
          exact AllReadyIn.nil
         exact AllReadyIn.nil
        refine AllReadyIn.cons rfl (fun K hK => ?_) ?_
        ·go_simp
         refine hK _ _ ?_
         clear hK K
         refine wpAnyIn_ready (rs := [1]) (by kernel_rfl) (by simp) ?_
         refine AllReadyIn.cons rfl (fun K hK => ?_) ?_
         ·go_simp
          refine hK _ _ ?_
          clear hK K
          refine wpAnyIn_ready (rs := [2]) (by kernel_rfl) (by simp) ?_
          refine AllReadyIn.cons rfl (fun K hK => ?_) ?_
          ·go_simp
           (refine HN1.out.mono ?_; rintro e w2 ⟨g1, m1, v1, rfl, hw1, hb2⟩; have HWA := Hid.intro hw1; have HBA := Hid.intro hb2; have hb2' : Below W1.heap.size W1 w2 := ⟨hb2.os, hb2.tape, hb2.output, hb2.size, hb2.block⟩; have hx0' := (HX0.out.kept (Below.grow0 hb2') (by simp)).cell; have hx2' := (HX2.out.below hb2').cell; obtain ⟨q0', q1', q2', q3', q4', q5', q6', q7', q8'⟩ := nine hx2'; clear hw1 hb2 hb2' hx2')
           dsimp only
           refine hK _ _ ?_
           clear hK K
           refine wpAnyIn_ready (rs := [5]) (by kernel_rfl) (by simp) ?_
           refine AllReadyIn.cons rfl (fun K hK => ?_) ?_
           ·go_simp
            (refine (HN2.out _).mono ?_; rintro e w3 ⟨g2, m2, v2, rfl, hw2, hb3⟩; have HWB := Hid.intro hw2; have HBB := Hid.intro hb3; clear hw2 hb3)
            dsimp only
            refine hK _ _ ?_
            clear hK K
            refine wpAnyIn_ready (rs := [6]) (by kernel_rfl) (by simp) ?_
            refine AllReadyIn.cons rfl (fun K hK => ?_) ?_
            ·go_simp
             refine hK _ _ ?_
             clear hK K
             refine wpAnyIn_ready (rs := [7]) (by kernel_rfl) (by simp) ?_
             refine AllReadyIn.cons rfl (fun K hK => ?_) ?_
             ·go_simp
              refine hK _ _ ?_
              clear hK K
              refine wpAnyIn_done (by kernel_rfl) ?_ _
              gi_wp2
              exact ⟨g1, m1, v1, g2, m2, v2, rfl, two_tail hs1 HWA.out HBA.out HWB.out HBB.out⟩
             exact AllReadyIn.nil
            exact AllReadyIn.nil
           exact AllReadyIn.nil
          exact AllReadyIn.nil
         exact AllReadyIn.nil
        exact AllReadyIn.nil
       exact AllReadyIn.nil
      refine AllReadyIn.cons rfl (fun K hK => ?_) ?_
      ·go_simp
       refine hK _ _ ?_
       clear hK K
       refine wpAnyIn_ready (rs := [0, 3, 4]) (by kernel_rfl) (by simp) ?_
       refine AllReadyIn.cons rfl (fun K hK => ?_) ?_
       ·go_simp
        refine hK _ _ ?_
        clear hK K
        refine wpAnyIn_ready (rs := [2, 3, 4]) (by kernel_rfl) (by simp) ?_
        refine AllReadyIn.cons rfl (fun K hK => ?_) ?_
        ·go_simp
         (refine HN1.out.mono ?_; rintro e w2 ⟨g1, m1, v1, rfl, hw1, hb2⟩; have HWA := Hid.intro hw1; have HBA := Hid.intro hb2; have hb2' : Below W1.heap.size W1 w2 := ⟨hb2.os, hb2.tape, hb2.output, hb2.size, hb2.block⟩; have hx0' := (HX0.out.kept (Below.grow0 hb2') (by simp)).cell; have hx2' := (HX2.out.below hb2').cell; obtain ⟨q0', q1', q2', q3', q4', q5', q6', q7', q8'⟩ := nine hx2'; clear hw1 hb2 hb2' hx2')
         dsimp only
         refine hK _ _ ?_
         clear hK K
         refine wpAnyIn_ready (rs := [3, 4]) (by kernel_rfl) (by simp) ?_
         refine AllReadyIn.cons rfl (fun K hK => ?_) ?_
         ·go_simp
          refine hK _ _ ?_
          clear hK K
          refine wpAnyIn_ready (rs := [4]) (by kernel_rfl) (by simp) ?_
          refine AllReadyIn.cons rfl (fun K hK => ?_) ?_
          ·go_simp
           refine hK _ _ ?_
           clear hK K
           refine wpAnyIn_ready (rs := [5]) (by kernel_rfl) (by simp) ?_
           refine AllReadyIn.cons rfl (fun K hK => ?_) ?_
           ·go_simp
            (refine (HN2.out _).mono ?_; rintro e w3 ⟨g2, m2, v2, rfl, hw2, hb3⟩; have HWB := Hid.intro hw2; have HBB := Hid.intro hb3; clear hw2 hb3)
            dsimp only
            refine hK _ _ ?_
            clear hK K
            refine wpAnyIn_ready (rs := [6]) (by kernel_rfl) (by simp) ?_
            refine AllReadyIn.cons rfl (fun K hK => ?_) ?_
            ·go_simp
             refine hK _ _ ?_
             clear hK K
             refine wpAnyIn_ready (rs := [7]) (by kernel_rfl) (by simp) ?_
             refine AllReadyIn.cons rfl (fun K hK => ?_) ?_
             ·go_simp
              refine hK _ _ ?_
              clear hK K
              refine wpAnyIn_done (by kernel_rfl) ?_ _
              gi_wp2
              exact ⟨g1, m1, v1, g2, m2, v2, rfl, two_tail hs1 HWA.out HBA.out HWB.out HBB.out⟩
             exact AllReadyIn.nil
            exact AllReadyIn.nil
           exact AllReadyIn.nil
          exact AllReadyIn.nil
         refine AllReadyIn.cons rfl (fun K hK => ?_) ?_
         ·go_simp
          refine hK _ _ ?_
          clear hK K
          refine wpAnyIn_ready (rs := [3]) (by kernel_rfl) (by simp) ?_
          refine AllReadyIn.cons rfl (fun K hK => ?_) ?_
          ·go_simp
           refine hK _ _ ?_
           clear hK K
           refine wpAnyIn_ready (rs := [5]) (by kernel_rfl) (by simp) ?_
           refine AllReadyIn.cons rfl (fun K hK => ?_) ?_
           ·go_simp
            (refine (HN2.out _).mono ?_; rintro e w3 ⟨g2, m2, v2, rfl, hw2, hb3⟩; have HWB := Hid.intro hw2; have HBB := Hid.intro hb3; clear hw2 hb3)
            dsimp only
            refine hK _ _ ?_
            clear hK K
            refine wpAnyIn_ready (rs := [6]) (by kernel_rfl) (by simp) ?_
            refine AllReadyIn.cons rfl (fun K hK => ?_) ?_
            ·go_simp
             refine hK _ _ ?_
             clear hK K
             refine wpAnyIn_ready (rs := [7]) (by kernel_rfl) (by simp) ?_
             refine AllReadyIn.cons rfl (fun K hK => ?_) ?_
             ·go_simp
              refine hK _ _ ?_
              clear hK K
              refine wpAnyIn_done (by kernel_rfl) ?_ _
              gi_wp2
              exact ⟨g1, m1, v1, g2, m2, v2, rfl, two_tail hs1 HWA.out HBA.out HWB.out HBB.out⟩
             exact AllReadyIn.nil
            exact AllReadyIn.nil
           exact AllReadyIn.nil
          exact AllReadyIn.nil
         exact AllReadyIn.nil
        refine AllReadyIn.cons rfl (fun K hK => ?_) ?_
        ·go_simp
         refine hK _ _ ?_
         clear hK K
         refine wpAnyIn_ready (rs := [2, 4]) (by kernel_rfl) (by simp) ?_
         refine AllReadyIn.cons rfl (fun K hK => ?_) ?_
         ·go_simp
          (refine HN1.out.mono ?_; rintro e w2 ⟨g1, m1, v1, rfl, hw1, hb2⟩; have HWA := Hid.intro hw1; have HBA := Hid.intro hb2; have hb2' : Below W1.heap.size W1 w2 := ⟨hb2.os, hb2.tape, hb2.output, hb2.size, hb2.block⟩; have hx0' := (HX0.out.kept (Below.grow0 hb2') (by simp)).cell; have hx2' := (HX2.out.below hb2').cell; obtain ⟨q0', q1', q2', q3', q4', q5', q6', q7', q8'⟩ := nine hx2'; clear hw1 hb2 hb2' hx2')
          dsimp only
          refine hK _ _ ?_
          clear hK K
          refine wpAnyIn_ready (rs := [4]) (by kernel_rfl) (by simp) ?_
          refine AllReadyIn.cons rfl (fun K hK => ?_) ?_
          ·go_simp
           refine hK _ _ ?_
           clear hK K
           refine wpAnyIn_ready (rs := [5]) (by kernel_rfl) (by simp) ?_
           refine AllReadyIn.cons rfl (fun K hK => ?_) ?_
           ·go_simp
            (refine (HN2.out _).mono ?_; rintro e w3 ⟨g2, m2, v2, rfl, hw2, hb3⟩; have HWB := Hid.intro hw2; have HBB := Hid.intro hb3; clear hw2 hb3)
            dsimp only
            refine hK _ _ ?_
            clear hK K
            refine wpAnyIn_ready (rs := [6]) (by kernel_rfl) (by simp) ?_
            refine AllReadyIn.cons rfl (fun K hK => ?_) ?_
            ·go_simp
             refine hK _ _ ?_
             clear hK K
             refine wpAnyIn_ready (rs := [7]) (by kernel_rfl) (by simp) ?_
             refine AllReadyIn.cons rfl (fun K hK => ?_) ?_
             ·go_simp
              refine hK _ _ ?_
              clear hK K
              refine wpAnyIn_done (by kernel_rfl) ?_ _
              gi_wp2
              exact ⟨g1, m1, v1, g2, m2, v2, rfl, two_tail hs1 HWA.out HBA.out HWB.out HBB.out⟩
             exact AllReadyIn.nil
            exact AllReadyIn.nil
           exact AllReadyIn.nil
          exact AllReadyIn.nil
         refine AllReadyIn.cons rfl (fun K hK => ?_) ?_
         ·go_simp
          refine hK _ _ ?_
          clear hK K
          refine wpAnyIn_ready (rs := [2]) (by kernel_rfl) (by simp) ?_
          refine AllReadyIn.cons rfl (fun K hK => ?_) ?_
          ·go_simp
           (refine HN1.out.mono ?_; rintro e w2 ⟨g1, m1, v1, rfl, hw1, hb2⟩; have HWA := Hid.intro hw1; have HBA := Hid.intro hb2; have hb2' : Below W1.heap.size W1 w2 := ⟨hb2.os, hb2.tape, hb2.output, hb2.size, hb2.block⟩; have hx0' := (HX0.out.kept (Below.grow0 hb2') (by simp)).cell; have hx2' := (HX2.out.below hb2').cell; obtain ⟨q0', q1', q2', q3', q4', q5', q6', q7', q8'⟩ := nine hx2'; clear hw1 hb2 hb2' hx2')
           dsimp only
           refine hK _ _ ?_
           clear hK K
           refine wpAnyIn_ready (rs := [5]) (by kernel_rfl) (by simp) ?_
           refine AllReadyIn.cons rfl (fun K hK => ?_) ?_
           ·go_simp
            (refine (HN2.out _).mono ?_; rintro e w3 ⟨g2, m2, v2, rfl, hw2, hb3⟩; have HWB := Hid.intro hw2; have HBB := Hid.intro hb3; clear hw2 hb3)
            dsimp only
            refine hK _ _ ?_
            clear hK K
            refine wpAnyIn_ready (rs := [6]) (by kernel_rfl) (by simp) ?_
            refine AllReadyIn.cons rfl (fun K hK => ?_) ?_
            ·go_simp
             refine hK _ _ ?_
             clear hK K
             refine wpAnyIn_ready (rs := [7]) (by kernel_rfl) (by simp) ?_
             refine AllReadyIn.cons rfl (fun K hK => ?_) ?_
             ·go_simp
              refine hK _ _ ?_
              clear hK K
              refine wpAnyIn_done (by kernel_rfl) ?_ _
              gi_wp2
              exact ⟨g1, m1, v1, g2, m2, v2, rfl, two_tail hs1 HWA.out HBA.out HWB.out HBB.out⟩
             exact AllReadyIn.nil
            exact AllReadyIn.nil
           exact AllReadyIn.nil
          exact AllReadyIn.nil
         exact AllReadyIn.nil
        refine AllReadyIn.cons rfl (fun K hK => ?_) ?_
        ·go_simp
         refine hK _ _ ?_
         clear hK K
         refine wpAnyIn_ready (rs := [2, 3]) (by kernel_rfl) (by simp) ?_
         refine AllReadyIn.cons rfl (fun K hK => ?_) ?_
         ·go_simp
          (refine HN1.out.mono ?_; rintro e w2 ⟨g1, m1, v1, rfl, hw1, hb2⟩; have HWA := Hid.intro hw1; have HBA := Hid.intro hb2; have hb2' : Below W1.heap.size W1 w2 := ⟨hb2.os, hb2.tape, hb2.output, hb2.size, hb2.block⟩; have hx0' := (HX0.out.kept (Below.grow0 hb2') (by simp)).cell; have hx2' := (HX2.out.below hb2').cell; obtain ⟨q0', q1', q2', q3', q4', q5', q6', q7', q8'⟩ := nine hx2'; clear hw1 hb2 hb2' hx2')
          dsimp only
          refine hK _ _ ?_
          clear hK K
          refine wpAnyIn_ready (rs := [3]) (by kernel_rfl) (by simp) ?_
          refine AllReadyIn.cons rfl (fun K hK => ?_) ?_
          ·go_simp
           refine hK _ _ ?_
           clear hK K
           refine wpAnyIn_ready (rs := [5]) (by kernel_rfl) (by simp) ?_
           refine AllReadyIn.cons rfl (fun K hK => ?_) ?_
           ·go_simp
            (refine (HN2.out _).mono ?_; rintro e w3 ⟨g2, m2, v2, rfl, hw2, hb3⟩; have HWB := Hid.intro hw2; have HBB := Hid.intro hb3; clear hw2 hb3)
            dsimp only
            refine hK _ _ ?_
            clear hK K
            refine wpAnyIn_ready (rs := [6]) (by kernel_rfl) (by simp) ?_
            refine AllReadyIn.cons rfl (fun K hK => ?_) ?_
            ·go_simp
             refine hK _ _ ?_
             clear hK K
             refine wpAnyIn_ready (rs := [7]) (by kernel_rfl) (by simp) ?_
             refine AllReadyIn.cons rfl (fun K hK => ?_) ?_
             ·go_simp
              refine hK _ _ ?_
              clear hK K
              refine wpAnyIn_done (by kernel_rfl) ?_ _
              gi_wp2
              exact ⟨g1, m1, v1, g2, m2, v2, rfl, two_tail hs1 HWA.out HBA.out HWB.out HBB.out⟩
             exact AllReadyIn.nil
            exact AllReadyIn.nil
           exact AllReadyIn.nil
          exact AllReadyIn.nil
         refine AllReadyIn.cons rfl (fun K hK => ?_) ?_
         ·go_simp
          refine hK _ _ ?_
          clear hK K
          refine wpAnyIn_ready (rs := [2]) (by kernel_rfl) (by simp) ?_
          refine AllReadyIn.cons rfl (fun K hK => ?_) ?_
          ·go_simp
           (refine HN1.out.mono ?_; rintro e w2 ⟨g1, m1, v1, rfl, hw1, hb2⟩; have HWA := Hid.intro hw1; have HBA := Hid.intro hb2; have hb2' : Below W1.heap.size W1 w2 := ⟨hb2.os, hb2.tape, hb2.output, hb2.size, hb2.block⟩; have hx0' := (HX0.out.kept (Below.grow0 hb2') (by simp)).cell; have hx2' := (HX2.out.below hb2').cell; obtain ⟨q0', q1', q2', q3', q4', q5', q6', q7', q8'⟩ := nine hx2'; clear hw1 hb2 hb2' hx2')
           dsimp only
           refine hK _ _ ?_
           clear hK K
           refine wpAnyIn_ready (rs := [5]) (by kernel_rfl) (by simp) ?_
           refine AllReadyIn.cons rfl (fun K hK => ?_) ?_
           ·go_simp
            (refine (HN2.out _).mono ?_; rintro e w3 ⟨g2, m2, v2, rfl, hw2, hb3⟩; have HWB := Hid.intro hw2; have HBB := Hid.intro hb3; clear hw2 hb3)
            dsimp only
            refine hK _ _ ?_
            clear hK K
            refine wpAnyIn_ready (rs := [6]) (by kernel_rfl) (by simp) ?_
            refine AllReadyIn.cons rfl (fun K hK => ?_) ?_
            ·go_simp
             refine hK _ _ ?_
             clear hK K
             refine wpAnyIn_ready (rs := [7]) (by kernel_rfl) (by simp) ?_
             refine AllReadyIn.cons rfl (fun K hK => ?_) ?_
             ·go_simp
              refine hK _ _ ?_
              clear hK K
              refine wpAnyIn_done (by kernel_rfl) ?_ _
              gi_wp2
              exact ⟨g1, m1, v1, g2, m2, v2, rfl, two_tail hs1 HWA.out HBA.out HWB.out HBB.out⟩
             exact AllReadyIn.nil
            exact AllReadyIn.nil
           exact AllReadyIn.nil
          exact AllReadyIn.nil
         exact AllReadyIn.nil
        exact AllReadyIn.nil
       refine AllReadyIn.cons rfl (fun K hK => ?_) ?_
       ·go_simp
        refine hK _ _ ?_
        clear hK K
        refine wpAnyIn_ready (rs := [0, 4]) (by kernel_rfl) (by simp) ?_
        refine AllReadyIn.cons rfl (fun K hK => ?_) ?_
        ·go_simp
         refine hK _ _ ?_
         clear hK K
         refine wpAnyIn_ready (rs := [2, 4]) (by kernel_rfl) (by simp) ?_
         refine AllReadyIn.cons rfl (fun K hK => ?_) ?_
         ·go_simp
          (refine HN1.out.mono ?_; rintro e w2 ⟨g1, m1, v1, rfl, hw1, hb2⟩; have HWA := Hid.intro hw1; have HBA := Hid.intro hb2; have hb2' : Below W1.heap.size W1 w2 := ⟨hb2.os, hb2.tape, hb2.output, hb2.size, hb2.block⟩; have hx0' := (HX0.out.kept (Below.grow0 hb2') (by simp)).cell; have hx2' := (HX2.out.below hb2').cell; obtain ⟨q0', q1', q2', q3', q4', q5', q6', q7', q8'⟩ := nine hx2'; clear hw1 hb2 hb2' hx2')
          dsimp only
          refine hK _ _ ?_
          clear hK K
          refine wpAnyIn_ready (rs := [4]) (by kernel_rfl) (by simp) ?_
          refine AllReadyIn.cons rfl (fun K hK => ?_) ?_
          ·go_simp
           refine hK _ _ ?_
           clear hK K
           refine wpAnyIn_ready (rs := [5]) (by kernel_rfl) (by simp) ?_
           refine AllReadyIn.cons rfl (fun K hK => ?_) ?_
           ·go_simp
            (refine (HN2.out _).mono ?_; rintro e w3 ⟨g2, m2, v2, rfl, hw2, hb3⟩; have HWB := Hid.intro hw2; have HBB := Hid.intro hb3; clear hw2 hb3)
            dsimp only
            refine hK _ _ ?_
            clear hK K
            refine wpAnyIn_ready (rs := [6]) (by kernel_rfl) (by simp) ?_
            refine AllReadyIn.cons rfl (fun K hK => ?_) ?_
            ·go_simp
             refine hK _ _ ?_
             clear hK K
             refine wpAnyIn_ready (rs := [7]) (by kernel_rfl) (by simp) ?_
             refine AllReadyIn.cons rfl (fun K hK => ?_) ?_
             ·go_simp
              refine hK _ _ ?_
              clear hK K
              refine wpAnyIn_done (by kernel_rfl) ?_ _
              gi_wp2
              exact ⟨g1, m1, v1, g2, m2, v2, rfl, two_tail hs1 HWA.out HBA.out HWB.out HBB.out⟩
             exact AllReadyIn.nil
            exact AllReadyIn.nil
           exact AllReadyIn.nil
          exact AllReadyIn.nil
         refine AllReadyIn.cons rfl (fun K hK => ?_) ?_
         ·go_simp
          refine hK _ _ ?_
          clear hK K
          refine wpAnyIn_ready (rs := [2]) (by kernel_rfl) (by simp) ?_
          refine AllReadyIn.cons rfl (fun K hK => ?_) ?_
          ·go_simp
           (refine HN1.out.mono ?_; rintro e w2 ⟨g1, m1, v1, rfl, hw1, hb2⟩; have HWA := Hid.intro hw1; have HBA := Hid.intro hb2; have hb2' : Below W1.heap.size W1 w2 := ⟨hb2.os, hb2.tape, hb2.output, hb2.size, hb2.block⟩; have hx0' := (HX0.out.kept (Below.grow0 hb2') (by simp)).cell; have hx2' := (HX2.out.below hb2').cell; obtain ⟨q0', q1', q2', q3', q4', q5', q6', q7', q8'⟩ := nine hx2'; clear hw1 hb2 hb2' hx2')
           dsimp only
           refine hK _ _ ?_
           clear hK K
           refine wpAnyIn_ready (rs := [5]) (by kernel_rfl) (by simp) ?_
           refine AllReadyIn.cons rfl (fun K hK => ?_) ?_
           ·go_simp
            (refine (HN2.out _).mono ?_; rintro e w3 ⟨g2, m2, v2, rfl, hw2, hb3⟩; have HWB := Hid.intro hw2; have HBB := Hid.intro hb3; clear hw2 hb3)
            dsimp only
            refine hK _ _ ?_
            clear hK K
            refine wpAnyIn_ready (rs := [6]) (by kernel_rfl) (by simp) ?_
            refine AllReadyIn.cons rfl (fun K hK => ?_) ?_
            ·go_simp
             refine hK _ _ ?_
             clear hK K
             refine wpAnyIn_ready (rs := [7]) (by kernel_rfl) (by simp) ?_
             refine AllReadyIn.cons rfl (fun K hK => ?_) ?_
             ·go_simp
              refine hK _ _ ?_
              clear hK K
              refine wpAnyIn_done (by kernel_rfl) ?_ _
              gi_wp2
              exact ⟨g1, m1, v1, g2, m2, v2, rfl, two_tail hs1 HWA.out HBA.out HWB.out HBB.out⟩
             exact AllReadyIn.nil
            exact AllReadyIn.nil
           exact AllReadyIn.nil
          exact AllReadyIn.nil
         exact AllReadyIn.nil
        refine AllReadyIn.cons rfl (fun K hK => ?_) ?_
        ·go_simp
         refine hK _ _ ?_
         clear hK K
         refine wpAnyIn_ready (rs := [0]) (by kernel_rfl) (by simp) ?_
         refine AllReadyIn.cons rfl (fun K hK => ?_) ?_
         ·go_simp
          refine hK _ _ ?_
          clear hK K
          refine wpAnyIn_ready (rs := [2]) (by kernel_rfl) (by simp) ?_
          refine AllReadyIn.cons rfl (fun K hK => ?_) ?_
          ·go_simp
           (refine HN1.out.mono ?_; rintro e w2 ⟨g1, m1, v1, rfl, hw1, hb2⟩; have HWA := Hid.intro hw1; have HBA := Hid.intro hb2; have hb2' : Below W1.heap.size W1 w2 := ⟨hb2.os, hb2.tape, hb2.output, hb2.size, hb2.block⟩; have hx0' := (HX0.out.kept (Below.grow0 hb2') (by simp)).cell; have hx2' := (HX2.out.below hb2').cell; obtain ⟨q0', q1', q2', q3', q4', q5', q6', q7', q8'⟩ := nine hx2'; clear hw1 hb2 hb2' hx2')
           dsimp only
           refine hK _ _ ?_
           clear hK K
           refine wpAnyIn_ready (rs := [5]) (by kernel_rfl) (by simp) ?_
           refine AllReadyIn.cons rfl (fun K hK => ?_) ?_
           ·go_simp
            (refine (HN2.out _).mono ?_; rintro e w3 ⟨g2, m2, v2, rfl, hw2, hb3⟩; have HWB := Hid.intro hw2; have HBB := Hid.intro hb3; clear hw2 hb3)
            dsimp only
            refine hK _ _ ?_
            clear hK K
            refine wpAnyIn_ready (rs := [6]) (by kernel_rfl) (by simp) ?_
            refine AllReadyIn.cons rfl (fun K hK => ?_) ?_
            ·go_simp
             refine hK _ _ ?_
             clear hK K
             refine wpAnyIn_ready (rs := [7]) (by kernel_rfl) (by simp) ?_
             refine AllReadyIn.cons rfl (fun K hK => ?_) ?_
             ·go_simp
              refine hK _ _ ?_
              clear hK K
              refine wpAnyIn_done (by kernel_rfl) ?_ _
              gi_wp2
              exact ⟨g1, m1, v1, g2, m2, v2, rfl, two_tail hs1 HWA.out HBA.out HWB.out HBB.out⟩
             exact AllReadyIn.nil
            exact AllReadyIn.nil
           exact AllReadyIn.nil
          exact AllReadyIn.nil
         exact AllReadyIn.nil
        exact AllReadyIn.nil
       refine AllReadyIn.cons rfl (fun K hK => ?_) ?_
       ·go_simp
        refine hK _ _ ?_
        clear hK K
        refine wpAnyIn_ready (rs := [0, 3]) (by kernel_rfl) (by simp) ?_
        refine AllReadyIn.cons rfl (fun K hK => ?_) ?_
        ·go_simp
         refine hK _ _ ?_
         clear hK K
         refine wpAnyIn_ready (rs := [2, 3]) (by kernel_rfl) (by simp) ?_
         refine AllReadyIn.cons rfl (fun K hK => ?_) ?_
         ·go_simp
          (refine HN1.out.mono ?_; rintro e w2 ⟨g1, m1, v1, rfl, hw1, hb2⟩; have HWA := Hid.intro hw1; have HBA := Hid.intro hb2; have hb2' : Below W1.heap.size W1 w2 := ⟨hb2.os, hb2.tape, hb2.output, hb2.size, hb2.block⟩; have hx0' := (HX0.out.kept (Below.grow0 hb2') (by simp)).cell; have hx2' := (HX2.out.below hb2').cell; obtain ⟨q0', q1', q2', q3', q4', q5', q6', q7', q8'⟩ := nine hx2'; clear hw1 hb2 hb2' hx2')
          dsimp only
          refine hK _ _ ?_
          clear hK K
          refine wpAnyIn_ready (rs := [3]) (by kernel_rfl) (by simp) ?_
          refine AllReadyIn.cons rfl (fun K hK => ?_) ?_
          ·go_simp
           refine hK _ _ ?_
           clear hK K
           refine wpAnyIn_ready (rs := [5]) (by kernel_rfl) (by simp) ?_
           refine AllReadyIn.cons rfl (fun K hK => ?_) ?_
           ·go_simp
            (refine (HN2.out _).mono ?_; rintro e w3 ⟨g2, m2, v2, rfl, hw2, hb3⟩; have HWB := Hid.intro hw2; have HBB := Hid.intro hb3; clear hw2 hb3)
            dsimp only
            refine hK _ _ ?_
            clear hK K
            refine wpAnyIn_ready (rs := [6]) (by kernel_rfl) (by simp) ?_
            refine AllReadyIn.cons rfl (fun K hK => ?_) ?_
            ·go_simp
             refine hK _ _ ?_
             clear hK K
             refine wpAnyIn_ready (rs := [7]) (by kernel_rfl) (by simp) ?_
             refine AllReadyIn.cons rfl (fun K hK => ?_) ?_
             ·go_simp
              refine hK _ _ ?_
              clear hK K
              refine wpAnyIn_done (by kernel_rfl) ?_ _
              gi_wp2
              exact ⟨g1, m1, v1, g2, m2, v2, rfl, two_tail hs1 HWA.out HBA.out HWB.out HBB.out⟩
             exact AllReadyIn.nil
            exact AllReadyIn.nil
           exact AllReadyIn.nil
          exact AllReadyIn.nil
         refine AllReadyIn.cons rfl (fun K hK => ?_) ?_
         ·go_simp
          refine hK _ _ ?_
          clear hK K
          refine wpAnyIn_ready (rs := [2]) (by kernel_rfl) (by simp) ?_
          refine AllReadyIn.cons rfl (fun K hK => ?_) ?_
          ·go_simp
           (refine HN1.out.mono ?_; rintro e w2 ⟨g1, m1, v1, rfl, hw1, hb2⟩; have HWA := Hid.intro hw1; have HBA := Hid.intro hb2; have hb2' : Below W1.heap.size W1 w2 := ⟨hb2.os, hb2.tape, hb2.output, hb2.size, hb2.block⟩; have hx0' := (HX0.out.kept (Below.grow0 hb2') (by simp)).cell; have hx2' := (HX2.out.below hb2').cell; obtain ⟨q0', q1', q2', q3', q4', q5', q6', q7', q8'⟩ := nine hx2'; clear hw1 hb2 hb2' hx2')
           dsimp only
           refine hK _ _ ?_
           clear hK K
           refine wpAnyIn_ready (rs := [5]) (by kernel_rfl) (by simp) ?_
           refine AllReadyIn.cons rfl (fun K hK => ?_) ?_
           ·go_simp
            (refine (HN2.out _).mono ?_; rintro e w3 ⟨g2, m2, v2, rfl, hw2, hb3⟩; have HWB := Hid.intro hw2; have HBB := Hid.intro hb3; clear hw2 hb3)
            dsimp only
            refine hK _ _ ?_
            clear hK K
            refine wpAnyIn_ready (rs := [6]) (by kernel_rfl) (by simp) ?_
            refine AllReadyIn.cons rfl (fun K hK => ?_) ?_
            ·go_simp
             refine hK _ _ ?_
             clear hK K
             refine wpAnyIn_ready (rs := [7]) (by kernel_rfl) (by simp) ?_
             refine AllReadyIn.cons rfl (fun K hK => ?_) ?_
             ·go_simp
              refine hK _ _ ?_
              clear hK K
              refine wpAnyIn_done (by kernel_rfl) ?_ _
              gi_wp2
              exact ⟨g1, m1, v1, g2, m2, v2, rfl, two_tail hs1 HWA.out HBA.out HWB.out HBB.out⟩
             exact AllReadyIn.nil
            exact AllReadyIn.nil
           exact AllReadyIn.nil
          exact AllReadyIn.nil
         exact AllReadyIn.nil
        refine AllReadyIn.cons rfl (fun K hK => ?_) ?_
        ·go_simp
         refine hK _ _ ?_
         clear hK K
         refine wpAnyIn_ready (rs := [0]) (by kernel_rfl) (by simp) ?_
         refine AllReadyIn.cons rfl (fun K hK => ?_) ?_
         ·go_simp
          refine hK _ _ ?_
          clear hK K
          refine wpAnyIn_ready (rs := [2]) (by kernel_rfl) (by simp) ?_
          refine AllReadyIn.cons rfl (fun K hK => ?_) ?_
          ·go_simp
           (refine HN1.out.mono ?_; rintro e w2 ⟨g1, m1, v1, rfl, hw1, hb2⟩; have HWA := Hid.intro hw1; have HBA := Hid.intro hb2; have hb2' : Below W1.heap.size W1 w2 := ⟨hb2.os, hb2.tape, hb2.output, hb2.size, hb2.block⟩; have hx0' := (HX0.out.kept (Below.grow0 hb2') (by simp)).cell; have hx2' := (HX2.out.below hb2').cell; obtain ⟨q0', q1', q2', q3', q4', q5', q6', q7', q8'⟩ := nine hx2'; clear hw1 hb2 hb2' hx2')
           dsimp only
           refine hK _ _ ?_
           clear hK K
           refine wpAnyIn_ready (rs := [5]) (by kernel_rfl) (by simp) ?_
           refine AllReadyIn.cons rfl (fun K hK => ?_) ?_
           ·go_simp
            (refine (HN2.out _).mono ?_; rintro e w3 ⟨g2, m2, v2, rfl, hw2, hb3⟩; have HWB := Hid.intro hw2; have HBB := Hid.intro hb3; clear hw2 hb3)
            dsimp only
            refine hK _ _ ?_
            clear hK K
            refine wpAnyIn_ready (rs := [6]) (by kernel_rfl) (by simp) ?_
            refine AllReadyIn.cons rfl (fun K hK => ?_) ?_
            ·go_simp
             refine hK _ _ ?_
             clear hK K
             refine wpAnyIn_ready (rs := [7]) (by kernel_rfl) (by simp) ?_
             refine AllReadyIn.cons rfl (fun K hK => ?_) ?_
             ·go_simp
              refine hK _ _ ?_
              clear hK K
              refine wpAnyIn_done (by kernel_rfl) ?_ _
              gi_wp2
              exact ⟨g1, m1, v1, g2, m2, v2, rfl, two_tail hs1 HWA.out HBA.out HWB.out HBB.out⟩
             exact AllReadyIn.nil
            exact AllReadyIn.nil
           exact AllReadyIn.nil
          exact AllReadyIn.nil
         exact AllReadyIn.nil
        exact AllReadyIn.nil
       exact AllReadyIn.nil
      refine AllReadyIn.cons rfl (fun K hK => ?_) ?_
      ·go_simp
       refine hK _ _ ?_
       clear hK K
       refine wpAnyIn_ready (rs := [0, 1, 4]) (by kernel_rfl) (by simp) ?_
       refine AllReadyIn.cons rfl (fun K hK => ?_) ?_
       ·go_simp
        refine hK _ _ ?_
        clear hK K
        refine wpAnyIn_ready (rs := [1, 4]) (by kernel_rfl) (by simp) ?_
        refine AllReadyIn.cons rfl (fun K hK => ?_) ?_
        ·go_simp
         refine hK _ _ ?_
         clear hK K
         refine wpAnyIn_ready (rs := [2, 4]) (by kernel_rfl) (by simp) ?_
         refine AllReadyIn.cons rfl (fun K hK => ?_) ?_
         ·go_simp
          (refine HN1.out.mono ?_; rintro e w2 ⟨g1, m1, v1, rfl, hw1, hb2⟩; have HWA := Hid.intro hw1; have HBA := Hid.intro hb2; have hb2' : Below W1.heap.size W1 w2 := ⟨hb2.os, hb2.tape, hb2.output, hb2.size, hb2.block⟩; have hx0' := (HX0.out.kept (Below.grow0 hb2') (by simp)).cell; have hx2' := (HX2.out.below hb2').cell; obtain ⟨q0', q1', q2', q3', q4', q5', q6', q7', q8'⟩ := nine hx2'; clear hw1 hb2 hb2' hx2')
          dsimp only
          refine hK _ _ ?_
          clear hK K
          refine wpAnyIn_ready (rs := [4]) (by kernel_rfl) (by simp) ?_
          refine AllReadyIn.cons rfl (fun K hK => ?_) ?_
          ·go_simp
           refine hK _ _ ?_
           clear hK K
           refine wpAnyIn_ready (rs := [5]) (by kernel_rfl) (by simp) ?_
           refine AllReadyIn.cons rfl (fun K hK => ?_) ?_
           ·go_simp
            (refine (HN2.out _).mono ?_; rintro e w3 ⟨g2, m2, v2, rfl, hw2, hb3⟩; have HWB := Hid.intro hw2; have HBB := Hid.intro hb3; clear hw2 hb3)
            dsimp only
            refine hK _ _ ?_
            clear hK K
            refine wpAnyIn_ready (rs := [6]) (by kernel_rfl) (by simp) ?_
            refine AllReadyIn.cons rfl (fun K hK => ?_) ?_
            ·go_simp
             refine hK _ _ ?_
             clear hK K
             refine wpAnyIn_ready (rs := [7]) (by kernel_rfl) (by simp) ?_
             refine AllReadyIn.cons rfl (fun K hK => ?_) ?_
             ·go_simp
              refine hK _ _ ?_
              clear hK K
              refine wpAnyIn_done (by kernel_rfl) ?_ _
              gi_wp2
              exact ⟨g1, m1, v1, g2, m2, v2, rfl, two_tail hs1 HWA.out HBA.out HWB.out HBB.out⟩
             exact AllReadyIn.nil
            exact AllReadyIn.nil
           exact AllReadyIn.nil
          exact AllReadyIn.nil
         refine AllReadyIn.cons rfl (fun K hK => ?_) ?_
         ·go_simp
          refine hK _ _ ?_
          clear hK K
          refine wpAnyIn_ready (rs := [2]) (by kernel_rfl) (by simp) ?_
          refine AllReadyIn.cons rfl (fun K hK => ?_) ?_
          ·go_simp
           (refine HN1.out.mono ?_; rintro e w2 ⟨g1, m1, v1, rfl, hw1, hb2⟩; have HWA := Hid.intro hw1; have HBA := Hid.intro hb2; have hb2' : Below W1.heap.size W1 w2 := ⟨hb2.os, hb2.tape, hb2.output, hb2.size, hb2.block⟩; have hx0' := (HX0.out.kept (Below.grow0 hb2') (by simp)).cell; have hx2' := (HX2.out.below hb2').cell; obtain ⟨q0', q1', q2', q3', q4', q5', q6', q7', q8'⟩ := nine hx2'; clear hw1 hb2 hb2' hx2')
           dsimp only
           refine hK _ _ ?_
           clear hK K
           refine wpAnyIn_ready (rs := [5]) (by kernel_rfl) (by simp) ?_
           refine AllReadyIn.cons rfl (fun K hK => ?_) ?_
           ·go_simp
            (refine (HN2.out _).mono ?_; rintro e w3 ⟨g2, m2, v2, rfl, hw2, hb3⟩; have HWB := Hid.intro hw2; have HBB := Hid.intro hb3; clear hw2 hb3)
            dsimp only
            refine hK _ _ ?_
            clear hK K
            refine wpAnyIn_ready (rs := [6]) (by kernel_rfl) (by simp) ?_
            refine AllReadyIn.cons rfl (fun K hK => ?_) ?_
            ·go_simp
             refine hK _ _ ?_
             clear hK K
             refine wpAnyIn_ready (rs := [7]) (by kernel_rfl) (by simp) ?_
             refine AllReadyIn.cons rfl (fun K hK => ?_) ?_
             ·go_simp
              refine hK _ _ ?_
              clear hK K
              refine wpAnyIn_done (by kernel_rfl) ?_ _
              gi_wp2
              exact ⟨g1, m1, v1, g2, m2, v2, rfl, two_tail hs1 HWA.out HBA.out HWB.out HBB.out⟩
             exact AllReadyIn.nil
            exact AllReadyIn.nil
           exact AllReadyIn.nil
          exact AllReadyIn.nil
         exact AllReadyIn.nil
        refine AllReadyIn.cons rfl (fun K hK => ?_) ?_
        ·go_simp
         refine hK _ _ ?_
         clear hK K
         refine wpAnyIn_ready (rs := [1]) (by kernel_rfl) (by simp) ?_
         refine AllReadyIn.cons rfl (fun K hK => ?_) ?_
         ·go_simp
          refine hK _ _ ?_
          clear hK K
          refine wpAnyIn_ready (rs := [2]) (by kernel_rfl) (by simp) ?_
          refine AllReadyIn.cons rfl (fun K hK => ?_) ?_
          ·go_simp
           (refine HN1.out.mono ?_; rintro e w2 ⟨g1, m1, v1, rfl, hw1, hb2⟩; have HWA := Hid.intro hw1; have HBA := Hid.intro hb2; have hb2' : Below W1.heap.size W1 w2 := ⟨hb2.os, hb2.tape, hb2.output, hb2.size, hb2.block⟩; have hx0' := (HX0.out.kept (Below.grow0 hb2') (by simp)).cell; have hx2' := (HX2.out.below hb2').cell; obtain ⟨q0', q1', q2', q3', q4', q5', q6', q7', q8'⟩ := nine hx2'; clear hw1 hb2 hb2' hx2')
           dsimp only
           refine hK _ _ ?_
           clear hK K
           refine wpAnyIn_ready (rs := [5]) (by kernel_rfl) (by simp) ?_
           refine AllReadyIn.cons rfl (fun K hK => ?_) ?_
           ·go_simp
            (refine (HN2.out _).mono ?_; rintro e w3 ⟨g2, m2, v2, rfl, hw2, hb3⟩; have HWB := Hid.intro hw2; have HBB := Hid.intro hb3; clear hw2 hb3)
            dsimp only
            refine hK _ _ ?_
            clear hK K
            refine wpAnyIn_ready (rs := [6]) (by kernel_rfl) (by simp) ?_
            refine AllReadyIn.cons rfl (fun K hK => ?_) ?_
            ·go_simp
             refine hK _ _ ?_
             clear hK K
             refine wpAnyIn_ready (rs := [7]) (by kernel_rfl) (by simp) ?_
             refine AllReadyIn.cons rfl (fun K hK => ?_) ?_
             ·go_simp
              refine hK _ _ ?_
              clear hK K
              refine wpAnyIn_done (by kernel_rfl) ?_ _
              gi_wp2
              exact ⟨g1, m1, v1, g2, m2, v2, rfl, two_tail hs1 HWA.out HBA.out HWB.out HBB.out⟩
             exact AllReadyIn.nil
            exact AllReadyIn.nil
           exact AllReadyIn.nil
          exact AllReadyIn.nil
         exact AllReadyIn.nil
        exact AllReadyIn.nil
       refine AllReadyIn.cons rfl (fun K hK => ?_) ?_
       ·go_simp
        refine hK _ _ ?_
        clear hK K
        refine wpAnyIn_ready (rs := [0, 4]) (by kernel_rfl) (by simp) ?_
        refine AllReadyIn.cons rfl (fun K hK => ?_) ?_
        ·go_simp
         refine hK _ _ ?_
         clear hK K
         refine wpAnyIn_ready (rs := [2, 4]) (by kernel_rfl) (by simp) ?_
         refine AllReadyIn.cons rfl (fun K hK => ?_) ?_
         ·go_simp
          (refine HN1.out.mono ?_; rintro e w2 ⟨g1, m1, v1, rfl, hw1, hb2⟩; have HWA := Hid.intro hw1; have HBA := Hid.intro hb2; have hb2' : Below W1.heap.size W1 w2 := ⟨hb2.os, hb2.tape, hb2.output, hb2.size, hb2.block⟩; have hx0' := (HX0.out.kept (Below.grow0 hb2') (by simp)).cell; have hx2' := (HX2.out.below hb2').cell; obtain ⟨q0', q1', q2', q3', q4', q5', q6', q7', q8'⟩ := nine hx2'; clear hw1 hb2 hb2' hx2')
          dsimp only
          refine hK _ _ ?_
          clear hK K
          refine wpAnyIn_ready (rs := [4]) (by kernel_rfl) (by simp) ?_
          refine AllReadyIn.cons rfl (fun K hK => ?_) ?_
          ·go_simp
           refine hK _ _ ?_
           clear hK K
           refine wpAnyIn_ready (rs := [5]) (by kernel_rfl) (by simp) ?_
           refine AllReadyIn.cons rfl (fun K hK => ?_) ?_
           ·go_simp
            (refine (HN2.out _).mono ?_; rintro e w3 ⟨g2, m2, v2, rfl, hw2, hb3⟩; have HWB := Hid.intro hw2; have HBB := Hid.intro hb3; clear hw2 hb3)
            dsimp only
            refine hK _ _ ?_
            clear hK K
            refine wpAnyIn_ready (rs := [6]) (by kernel_rfl) (by simp) ?_
            refine AllReadyIn.cons rfl (fun K hK => ?_) ?_
            ·go_simp
             refine hK _ _ ?_
             clear hK K
             refine wpAnyIn_ready (rs := [7]) (by kernel_rfl) (by simp) ?_
             refine AllReadyIn.cons rfl (fun K hK => ?_) ?_
             ·go_simp
              refine hK _ _ ?_
              clear hK K
              refine wpAnyIn_done (by kernel_rfl) ?_ _
              gi_wp2
              exact ⟨g1, m1, v1, g2, m2, v2, rfl, two_tail hs1 HWA.out HBA.out HWB.out HBB.out⟩
             exact AllReadyIn.nil
            exact AllReadyIn.nil
           exact AllReadyIn.nil
          exact AllReadyIn.nil
         refine AllReadyIn.cons rfl (fun K hK => ?_) ?_
         ·go_simp
          refine hK _ _ ?_
          clear hK K
          refine wpAnyIn_ready (rs := [2]) (by kernel_rfl) (by simp) ?_
          refine AllReadyIn.cons rfl (fun K hK => ?_) ?_
          ·go_simp
           (refine HN1.out.mono ?_; rintro e w2 ⟨g1, m1, v1, rfl, hw1, hb2⟩; have HWA := Hid.intro hw1; have HBA := Hid.intro hb2; have hb2' : Below W1.heap.size W1 w2 := ⟨hb2.os, hb2.tape, hb2.output, hb2.size, hb2.block⟩; have hx0' := (HX0.out.kept (Below.grow0 hb2') (by simp)).cell; have hx2' := (HX2.out.below hb2').cell; obtain ⟨q0', q1', q2', q3', q4', q5', q6', q7', q8'⟩ := nine hx2'; clear hw1 hb2 hb2' hx2')
           dsimp only
           refine hK _ _ ?_
           clear hK K
           refine wpAnyIn_ready (rs := [5]) (by kernel_rfl) (by simp) ?_
           refine AllReadyIn.cons rfl (fun K hK => ?_) ?_
           ·go_simp
            (refine (HN2.out _).mono ?_; rintro e w3 ⟨g2, m2, v2, rfl, hw2, hb3⟩; have HWB := Hid.intro hw2; have HBB := Hid.intro hb3; clear hw2 hb3)
            dsimp only
            refine hK _ _ ?_
            clear hK K
            refine wpAnyIn_ready (rs := [6]) (by kernel_rfl) (by simp) ?_
            refine AllReadyIn.cons rfl (fun K hK => ?_) ?_
            ·go_simp
             refine hK _ _ ?_
             clear hK K
             refine wpAnyIn_ready (rs := [7]) (by kernel_rfl) (by simp) ?_
             refine AllReadyIn.cons rfl (fun K hK => ?_) ?_
             ·go_simp
              refine hK _ _ ?_
              clear hK K
              refine wpAnyIn_done (by kernel_rfl) ?_ _
              gi_wp2
              exact ⟨g1, m1, v1, g2, m2, v2, rfl, two_tail hs1 HWA.out HBA.out HWB.out HBB.out⟩
             exact AllReadyIn.nil
            exact AllReadyIn.nil
           exact AllReadyIn.nil
          exact AllReadyIn.nil
         exact AllReadyIn.nil
        refine AllReadyIn.cons rfl (fun K hK => ?_) ?_
        ·go_simp
         refine hK _ _ ?_
         clear hK K
         refine wpAnyIn_ready (rs := [0]) (by kernel_rfl) (by simp) ?_
         refine AllReadyIn.cons rfl (fun K hK => ?_) ?_
         ·go_simp
          refine hK _ _ ?_
          clear hK K
          refine wpAnyIn_ready (rs := [2]) (by kernel_rfl) (by simp) ?_
          refine AllReadyIn.cons rfl (fun K hK => ?_) ?_
          ·go_simp
           (refine HN1.out.mono ?_; rintro e w2 ⟨g1, m1, v1, rfl, hw1, hb2⟩; have HWA := Hid.intro hw1; have HBA := Hid.intro hb2; have hb2' : Below W1.heap.size W1 w2 := ⟨hb2.os, hb2.tape, hb2.output, hb2.size, hb2.block⟩; have hx0' := (HX0.out.kept (Below.grow0 hb2') (by simp)).cell; have hx2' := (HX2.out.below hb2').cell; obtain ⟨q0', q1', q2', q3', q4', q5', q6', q7', q8'⟩ := nine hx2'; clear hw1 hb2 hb2' hx2')
           dsimp only
           refine hK _ _ ?_
           clear hK K
           refine wpAnyIn_ready (rs := [5]) (by kernel_rfl) (by simp) ?_
           refine AllReadyIn.cons rfl (fun K hK => ?_) ?_
           ·go_simp
            (refine (HN2.out _).mono ?_; rintro e w3 ⟨g2, m2, v2, rfl, hw2, hb3⟩; have HWB := Hid.intro hw2; have HBB := Hid.intro hb3; clear hw2 hb3)
            dsimp only
            refine hK _ _ ?_
            clear hK K
            refine wpAnyIn_ready (rs := [6]) (by kernel_rfl) (by simp) ?_
            refine AllReadyIn.cons rfl (fun K hK => ?_) ?_
            ·go_simp
             refine hK _ _ ?_
             clear hK K
             refine wpAnyIn_ready (rs := [7]) (by kernel_rfl) (by simp) ?_
             refine AllReadyIn.cons rfl (fun K hK => ?_) ?_
             ·go_simp
              refine hK _ _ ?_
              clear hK K
              refine wpAnyIn_done (by kernel_rfl) ?_ _
              gi_wp2
              exact ⟨g1, m1, v1, g2, m2, v2, rfl, two_tail hs1 HWA.out HBA.out HWB.out HBB.out⟩
             exact AllReadyIn.nil
            exact AllReadyIn.nil
           exact AllReadyIn.nil
          exact AllReadyIn.nil
         exact AllReadyIn.nil
        exact AllReadyIn.nil
       refine AllReadyIn.cons rfl (fun K hK => ?_) ?_
       ·go_simp
        refine hK _ _ ?_
        clear hK K
        refine wpAnyIn_ready (rs := [0, 1]) (by kernel_rfl) (by simp) ?_
        refine AllReadyIn.cons rfl (fun K hK => ?_) ?_
        ·go_simp
         refine hK _ _ ?_
         clear hK K
         refine wpAnyIn_ready (rs := [1]) (by kernel_rfl) (by simp) ?_
         refine AllReadyIn.cons rfl (fun K hK => ?_) ?_
         ·go_simp
          refine hK _ _ ?_
          clear hK K
          refine wpAnyIn_ready (rs := [2]) (by kernel_rfl) (by simp) ?_
          refine AllReadyIn.cons rfl (fun K hK => ?_) ?_
          ·go_simp
           (refine HN1.out.mono ?_; rintro e w2 ⟨g1, m1, v1, rfl, hw1, hb2⟩; have HWA := Hid.intro hw1; have HBA := Hid.intro hb2; have hb2' : Below W1.heap.size W1 w2 := ⟨hb2.os, hb2.tape, hb2.output, hb2.size, hb2.block⟩; have hx0' := (HX0.out.kept (Below.grow0 hb2') (by simp)).cell; have hx2' := (HX2.out.below hb2').cell; obtain ⟨q0', q1', q2', q3', q4', q5', q6', q7', q8'⟩ := nine hx2'; clear hw1 hb2 hb2' hx2')
           dsimp only
           refine hK _ _ ?_
           clear hK K
           refine wpAnyIn_ready (rs := [5]) (by kernel_rfl) (by simp) ?_
           refine AllReadyIn.cons rfl (fun K hK => ?_) ?_
           ·go_simp
            (refine (HN2.out _).mono ?_; rintro e w3 ⟨g2, m2, v2, rfl, hw2, hb3⟩; have HWB := Hid.intro hw2; have HBB := Hid.intro hb3; clear hw2 hb3)
            dsimp only
            refine hK _ _ ?_
            clear hK K
            refine wpAnyIn_ready (rs := [6]) (by kernel_rfl) (by simp) ?_
            refine AllReadyIn.cons rfl (fun K hK => ?_) ?_
            ·go_simp
             refine hK _ _ ?_
             clear hK K
             refine wpAnyIn_ready (rs := [7]) (by kernel_rfl) (by simp) ?_
             refine AllReadyIn.cons rfl (fun K hK => ?_) ?_
             ·go_simp
              refine hK _ _ ?_
              clear hK K
              refine wpAnyIn_done (by kernel_rfl) ?_ _
              gi_wp2
              exact ⟨g1, m1, v1, g2, m2, v2, rfl, two_tail hs1 HWA.out HBA.out HWB.out HBB.out⟩
             exact AllReadyIn.nil
            exact AllReadyIn.nil
           exact AllReadyIn.nil
          exact AllReadyIn.nil
         exact AllReadyIn.nil
        refine AllReadyIn.cons rfl (fun K hK => ?_) ?_
        ·go_simp
         refine hK _ _ ?_
         clear hK K
         refine wpAnyIn_ready (rs := [0]) (by kernel_rfl) (by simp) ?_
         refine AllReadyIn.cons rfl (fun K hK => ?_) ?_
         ·go_simp
          refine hK _ _ ?_
          clear hK K
          refine wpAnyIn_ready (rs := [2]) (by kernel_rfl) (by simp) ?_
          refine AllReadyIn.cons rfl (fun K hK => ?_) ?_
          ·go_simp
           (refine HN1.out.mono ?_; rintro e w2 ⟨g1, m1, v1, rfl, hw1, hb2⟩; have HWA := Hid.intro hw1; have HBA := Hid.intro hb2; have hb2' : Below W1.heap.size W1 w2 := ⟨hb2.os, hb2.tape, hb2.output, hb2.size, hb2.block⟩; have hx0' := (HX0.out.kept (Below.grow0 hb2') (by simp)).cell; have hx2' := (HX2.out.below hb2').cell; obtain ⟨q0', q1', q2', q3', q4', q5', q6', q7', q8'⟩ := nine hx2'; clear hw1 hb2 hb2' hx2')
           dsimp only
           refine hK _ _ ?_
           clear hK K
           refine wpAnyIn_ready (rs := [5]) (by kernel_rfl) (by simp) ?_
           refine AllReadyIn.cons rfl (fun K hK => ?_) ?_
           ·go_simp
            (refine (HN2.out _).mono ?_; rintro e w3 ⟨g2, m2, v2, rfl, hw2, hb3⟩; have HWB := Hid.intro hw2; have HBB := Hid.intro hb3; clear hw2 hb3)
            dsimp only
            refine hK _ _ ?_
            clear hK K
            refine wpAnyIn_ready (rs := [6]) (by kernel_rfl) (by simp) ?_
            refine AllReadyIn.cons rfl (fun K hK => ?_) ?_
            ·go_simp
             refine hK _ _ ?_
             clear hK K
             refine wpAnyIn_ready (rs := [7]) (by kernel_rfl) (by simp) ?_
             refine AllReadyIn.cons rfl (fun K hK => ?_) ?_
             ·go_simp
              refine hK _ _ ?_
              clear hK K
              refine wpAnyIn_done (by kernel_rfl) ?_ _
              gi_wp2
              exact ⟨g1, m1, v1, g2, m2, v2, rfl, two_tail hs1 HWA.out HBA.out HWB.out HBB.out⟩
             exact AllReadyIn.nil
            exact AllReadyIn.nil
           exact AllReadyIn.nil
          exact AllReadyIn.nil
         exact AllReadyIn.nil
        exact AllReadyIn.nil
       exact AllReadyIn.nil
      refine AllReadyIn.cons rfl (fun K hK => ?_) ?_
      ·go_simp
       refine hK _ _ ?_
       clear hK K
       refine wpAnyIn_ready (rs := [0, 1, 3]) (by kernel_rfl) (by simp) ?_
       refine AllReadyIn.cons rfl (fun K hK => ?_) ?_
       ·go_simp
        refine hK _ _ ?_
        clear hK K
        refine wpAnyIn_ready (rs := [1, 3]) (by kernel_rfl) (by simp) ?_
        refine AllReadyIn.cons rfl (fun K hK => ?_) ?_
        ·go_simp
         refine hK _ _ ?_
         clear hK K
         refine wpAnyIn_ready (rs := [2, 3]) (by kernel_rfl) (by simp) ?_
         refine AllReadyIn.cons rfl (fun K hK => ?_) ?_
         ·go_simp
          (refine HN1.out.mono ?_; rintro e w2 ⟨g1, m1, v1, rfl, hw1, hb2⟩; have HWA := Hid.intro hw1; have HBA := Hid.intro hb2; have hb2' : Below W1.heap.size W1 w2 := ⟨hb2.os, hb2.tape, hb2.output, hb2.size, hb2.block⟩; have hx0' := (HX0.out.kept (Below.grow0 hb2') (by simp)).cell; have hx2' := (HX2.out.below hb2').cell; obtain ⟨q0', q1', q2', q3', q4', q5', q6', q7', q8'⟩ := nine hx2'; clear hw1 hb2 hb2' hx2')
          dsimp only
          refine hK _ _ ?_
          clear hK K
          refine wpAnyIn_ready (rs := [3]) (by kernel_rfl) (by simp) ?_
          refine AllReadyIn.cons rfl (fun K hK => ?_) ?_
          ·go_simp
           refine hK _ _ ?_
           clear hK K
           refine wpAnyIn_ready (rs := [5]) (by kernel_rfl) (by simp) ?_
           refine AllReadyIn.cons rfl (fun K hK => ?_) ?_
           ·go_simp
            (refine (HN2.out _).mono ?_; rintro e w3 ⟨g2, m2, v2, rfl, hw2, hb3⟩; have HWB := Hid.intro hw2; have HBB := Hid.intro hb3; clear hw2 hb3)
            dsimp only
            refine hK _ _ ?_
            clear hK K
            refine wpAnyIn_ready (rs := [6]) (by kernel_rfl) (by simp) ?_
            refine AllReadyIn.cons rfl (fun K hK => ?_) ?_
            ·go_simp
             refine hK _ _ ?_
             clear hK K
             refine wpAnyIn_ready (rs := [7]) (by kernel_rfl) (by simp) ?_
             refine AllReadyIn.cons rfl (fun K hK => ?_) ?_
             ·go_simp
              refine hK _ _ ?_
              clear hK K
              refine wpAnyIn_done (by kernel_rfl) ?_ _
              gi_wp2
              exact ⟨g1, m1, v1, g2, m2, v2, rfl, two_tail hs1 HWA.out HBA.out HWB.out HBB.out⟩
             exact AllReadyIn.nil
            exact AllReadyIn.nil
           exact AllReadyIn.nil
          exact AllReadyIn.nil
         refine AllReadyIn.cons rfl (fun K hK => ?_) ?_
         ·go_simp
          refine hK _ _ ?_
          clear hK K
          refine wpAnyIn_ready (rs := [2]) (by kernel_rfl) (by simp) ?_
          refine AllReadyIn.cons rfl (fun K hK => ?_) ?_
          ·go_simp
           (refine HN1.out.mono ?_; rintro e w2 ⟨g1, m1, v1, rfl, hw1, hb2⟩; have HWA := Hid.intro hw1; have HBA := Hid.intro hb2; have hb2' : Below W1.heap.size W1 w2 := ⟨hb2.os, hb2.tape, hb2.output, hb2.size, hb2.block⟩; have hx0' := (HX0.out.kept (Below.grow0 hb2') (by simp)).cell; have hx2' := (HX2.out.below hb2').cell; obtain ⟨q0', q1', q2', q3', q4', q5', q6', q7', q8'⟩ := nine hx2'; clear hw1 hb2 hb2' hx2')
           dsimp only
           refine hK _ _ ?_
           clear hK K
           refine wpAnyIn_ready (rs := [5]) (by kernel_rfl) (by simp) ?_
           refine AllReadyIn.cons rfl (fun K hK => ?_) ?_
           ·go_simp
            (refine (HN2.out _).mono ?_; rintro e w3 ⟨g2, m2, v2, rfl, hw2, hb3⟩; have HWB := Hid.intro hw2; have HBB := Hid.intro hb3; clear hw2 hb3)
            dsimp only
            refine hK _ _ ?_
            clear hK K
            refine wpAnyIn_ready (rs := [6]) (by kernel_rfl) (by simp) ?_
            refine AllReadyIn.cons rfl (fun K hK => ?_) ?_
            ·go_simp
             refine hK _ _ ?_
             clear hK K
             refine wpAnyIn_ready (rs := [7]) (by kernel_rfl) (by simp) ?_
             refine AllReadyIn.cons rfl (fun K hK => ?_) ?_
             ·go_simp
              refine hK _ _ ?_
              clear hK K
              refine wpAnyIn_done (by kernel_rfl) ?_ _
              gi_wp2
              exact ⟨g1, m1, v1, g2, m2, v2, rfl, two_tail hs1 HWA.out HBA.out HWB.out HBB.out⟩
             exact AllReadyIn.nil
            exact AllReadyIn.nil
           exact AllReadyIn.nil
          exact AllReadyIn.nil
         exact AllReadyIn.nil
        refine AllReadyIn.cons rfl (fun K hK => ?_) ?_
        ·go_simp
         refine hK _ _ ?_
         clear hK K
         refine wpAnyIn_ready (rs := [1]) (by kernel_rfl) (by simp) ?_
         refine AllReadyIn.cons rfl (fun K hK => ?_) ?_
         ·go_simp
          refine hK _ _ ?_
          clear hK K
          refine wpAnyIn_ready (rs := [2]) (by kernel_rfl) (by simp) ?_
          refine AllReadyIn.cons rfl (fun K hK => ?_) ?_
          ·go_simp
           (refine HN1.out.mono ?_; rintro e w2 ⟨g1, m1, v1, rfl, hw1, hb2⟩; have HWA := Hid.intro hw1; have HBA := Hid.intro hb2; have hb2' : Below W1.heap.size W1 w2 := ⟨hb2.os, hb2.tape, hb2.output, hb2.size, hb2.block⟩; have hx0' := (HX0.out.kept (Below.grow0 hb2') (by simp)).cell; have hx2' := (HX2.out.below hb2').cell; obtain ⟨q0', q1', q2', q3', q4', q5', q6', q7', q8'⟩ := nine hx2'; clear hw1 hb2 hb2' hx2')
           dsimp only
           refine hK _ _ ?_
           clear hK K
           refine wpAnyIn_ready (rs := [5]) (by kernel_rfl) (by simp) ?_
           refine AllReadyIn.cons rfl (fun K hK => ?_) ?_
           ·go_simp
            (refine (HN2.out _).mono ?_; rintro e w3 ⟨g2, m2, v2, rfl, hw2, hb3⟩; have HWB := Hid.intro hw2; have HBB := Hid.intro hb3; clear hw2 hb3)
            dsimp only
            refine hK _ _ ?_
            clear hK K
            refine wpAnyIn_ready (rs := [6]) (by kernel_rfl) (by simp) ?_
            refine AllReadyIn.cons rfl (fun K hK => ?_) ?_
            ·go_simp
             refine hK _ _ ?_
             clear hK K
             refine wpAnyIn_ready (rs := [7]) (by kernel_rfl) (by simp) ?_
             refine AllReadyIn.cons rfl (fun K hK => ?_) ?_
             ·go_simp
              refine hK _ _ ?_
              clear hK K
              refine wpAnyIn_done (by kernel_rfl) ?_ _
              gi_wp2
              exact ⟨g1, m1, v1, g2, m2, v2, rfl, two_tail hs1 HWA.out HBA.out HWB.out HBB.out⟩
             exact AllReadyIn.nil
            exact AllReadyIn.nil
           exact AllReadyIn.nil
          exact AllReadyIn.nil
         exact AllReadyIn.nil
        exact AllReadyIn.nil
       refine AllReadyIn.cons rfl (fun K hK => ?_) ?_
       ·go_simp
        refine hK _ _ ?_
        clear hK K
        refine wpAnyIn_ready (rs := [0, 3]) (by kernel_rfl) (by simp) ?_
        refine AllReadyIn.cons rfl (fun K hK => ?_) ?_
        ·go_simp
         refine hK _ _ ?_
         clear hK K
         refine wpAnyIn_ready (rs := [2, 3]) (by kernel_rfl) (by simp) ?_
         refine AllReadyIn.cons rfl (fun K hK => ?_) ?_
         ·go_simp
          (refine HN1.out.mono ?_; rintro e w2 ⟨g1, m1, v1, rfl, hw1, hb2⟩; have HWA := Hid.intro hw1; have HBA := Hid.intro hb2; have hb2' : Below W1.heap.size W1 w2 := ⟨hb2.os, hb2.tape, hb2.output, hb2.size, hb2.block⟩; have hx0' := (HX0.out.kept (Below.grow0 hb2') (by simp)).cell; have hx2' := (HX2.out.below hb2').cell; obtain ⟨q0', q1', q2', q3', q4', q5', q6', q7', q8'⟩ := nine hx2'; clear hw1 hb2 hb2' hx2')
          dsimp only
          refine hK _ _ ?_
          clear hK K
          refine wpAnyIn_ready (rs := [3]) (by kernel_rfl) (by simp) ?_
          refine AllReadyIn.cons rfl (fun K hK => ?_) ?_
          ·go_simp
           refine hK _ _ ?_
           clear hK K
           refine wpAnyIn_ready (rs := [5]) (by kernel_rfl) (by simp) ?_
           refine AllReadyIn.cons rfl (fun K hK => ?_) ?_
           ·go_simp
            (refine (HN2.out _).mono ?_; rintro e w3 ⟨g2, m2, v2, rfl, hw2, hb3⟩; have HWB := Hid.intro hw2; have HBB := Hid.intro hb3; clear hw2 hb3)
            dsimp only
            refine hK _ _ ?_
            clear hK K
            refine wpAnyIn_ready (rs := [6]) (by kernel_rfl) (by simp) ?_
            refine AllReadyIn.cons rfl (fun K hK => ?_) ?_
            ·go_simp
             refine hK _ _ ?_
             clear hK K
             refine wpAnyIn_ready (rs := [7]) (by kernel_rfl) (by simp) ?_
             refine AllReadyIn.cons rfl (fun K hK => ?_) ?_
             ·go_simp
              refine hK _ _ ?_
              clear hK K
              refine wpAnyIn_done (by kernel_rfl) ?_ _
              gi_wp2
              exact ⟨g1, m1, v1, g2, m2, v2, rfl, two_tail hs1 HWA.out HBA.out HWB.out HBB.out⟩
             exact AllReadyIn.nil
            exact AllReadyIn.nil
           exact AllReadyIn.nil
          exact AllReadyIn.nil
         refine AllReadyIn.cons rfl (fun K hK => ?_) ?_
         ·go_simp
          refine hK _ _ ?_
          clear hK K
          refine wpAnyIn_ready (rs := [2]) (by kernel_rfl) (by simp) ?_
          refine AllReadyIn.cons rfl (fun K hK => ?_) ?_
          ·go_simp
           (refine HN1.out.mono ?_; rintro e w2 ⟨g1, m1, v1, rfl, hw1, hb2⟩; have HWA := Hid.intro hw1; have HBA := Hid.intro hb2; have hb2' : Below W1.heap.size W1 w2 := ⟨hb2.os, hb2.tape, hb2.output, hb2.size, hb2.block⟩; have hx0' := (HX0.out.kept (Below.grow0 hb2') (by simp)).cell; have hx2' := (HX2.out.below hb2').cell; obtain ⟨q0', q1', q2', q3', q4', q5', q6', q7', q8'⟩ := nine hx2'; clear hw1 hb2 hb2' hx2')
           dsimp only
           refine hK _ _ ?_
           clear hK K
           refine wpAnyIn_ready (rs := [5]) (by kernel_rfl) (by simp) ?_
           refine AllReadyIn.cons rfl (fun K hK => ?_) ?_
           ·go_simp
            (refine (HN2.out _).mono ?_; rintro e w3 ⟨g2, m2, v2, rfl, hw2, hb3⟩; have HWB := Hid.intro hw2; have HBB := Hid.intro hb3; clear hw2 hb3)
            dsimp only
            refine hK _ _ ?_
            clear hK K
            refine wpAnyIn_ready (rs := [6]) (by kernel_rfl) (by simp) ?_
            refine AllReadyIn.cons rfl (fun K hK => ?_) ?_
            ·go_simp
             refine hK _ _ ?_
             clear hK K
             refine wpAnyIn_ready (rs := [7]) (by kernel_rfl) (by simp) ?_
             refine AllReadyIn.cons rfl (fun K hK => ?_) ?_
             ·go_simp
              refine hK _ _ ?_
              clear hK K
              refine wpAnyIn_done (by kernel_rfl) ?_ _
              gi_wp2
              exact ⟨g1, m1, v1, g2, m2, v2, rfl, two_tail hs1 HWA.out HBA.out HWB.out HBB.out⟩
             exact AllReadyIn.nil
            exact AllReadyIn.nil
           exact AllReadyIn.nil
          exact AllReadyIn.nil
         exact AllReadyIn.nil
        refine AllReadyIn.cons rfl (fun K hK => ?_) ?_
        ·go_simp
         refine hK _ _ ?_
         clear hK K
         refine wpAnyIn_ready (rs := [0]) (by kernel_rfl) (by simp) ?_
         refine AllReadyIn.cons rfl (fun K hK => ?_) ?_
         ·go_simp
          refine hK _ _ ?_
          clear hK K
          refine wpAnyIn_ready (rs := [2]) (by kernel_rfl) (by simp) ?_
          refine AllReadyIn.cons rfl (fun K hK => ?_) ?_
          ·go_simp
           (refine HN1.out.mono ?_; rintro e w2 ⟨g1, m1, v1, rfl, hw1, hb2⟩; have HWA := Hid.intro hw1; have HBA := Hid.intro hb2; have hb2' : Below W1.heap.size W1 w2 := ⟨hb2.os, hb2.tape, hb2.output, hb2.size, hb2.block⟩; have hx0' := (HX0.out.kept (Below.grow0 hb2') (by simp)).cell; have hx2' := (HX2.out.below hb2').cell; obtain ⟨q0', q1', q2', q3', q4', q5', q6', q7', q8'⟩ := nine hx2'; clear hw1 hb2 hb2' hx2')
           dsimp only
           refine hK _ _ ?_
           clear hK K
           refine wpAnyIn_ready (rs := [5]) (by kernel_rfl) (by simp) ?_
           refine AllReadyIn.cons rfl (fun K hK => ?_) ?_
           ·go_simp
            (refine (HN2.out _).mono ?_; rintro e w3 ⟨g2, m2, v2, rfl, hw2, hb3⟩; have HWB := Hid.intro hw2; have HBB := Hid.intro hb3; clear hw2 hb3)
            dsimp only
            refine hK _ _ ?_
            clear hK K
            refine wpAnyIn_ready (rs := [6]) (by kernel_rfl) (by simp) ?_
            refine AllReadyIn.cons rfl (fun K hK => ?_) ?_
            ·go_simp
             refine hK _ _ ?_
             clear hK K
             refine wpAnyIn_ready (rs := [7]) (by kernel_rfl) (by simp) ?_
             refine AllReadyIn.cons rfl (fun K hK => ?_) ?_
             ·go_simp
              refine hK _ _ ?_
              clear hK K
              refine wpAnyIn_done (by kernel_rfl) ?_ _
              gi_wp2
              exact ⟨g1, m1, v1, g2, m2, v2, rfl, two_tail hs1 HWA.out HBA.out HWB.out HBB.out⟩
             exact AllReadyIn.nil
            exact AllReadyIn.nil
           exact AllReadyIn.nil
          exact AllReadyIn.nil
         exact AllReadyIn.nil
        exact AllReadyIn.nil
       refine AllReadyIn.cons rfl (fun K hK => ?_) ?_
       ·go_simp
        refine hK _ _ ?_
        clear hK K
        refine wpAnyIn_ready (rs := [0, 1]) (by kernel_rfl) (by simp) ?_
        refine AllReadyIn.cons rfl (fun K hK => ?_) ?_
        ·go_simp
         refine hK _ _ ?_
         clear hK K
         refine wpAnyIn_ready (rs := [1]) (by kernel_rfl) (by simp) ?_
         refine AllReadyIn.cons rfl (fun K hK => ?_) ?_
         ·go_simp
          refine hK _ _ ?_
          clear hK K
          refine wpAnyIn_ready (rs := [2]) (by kernel_rfl) (by simp) ?_
          refine AllReadyIn.cons rfl (fun K hK => ?_) ?_
          ·go_simp
           (refine HN1.out.mono ?_; rintro e w2 ⟨g1, m1, v1, rfl, hw1, hb2⟩; have HWA := Hid.intro hw1; have HBA := Hid.intro hb2; have hb2' : Below W1.heap.size W1 w2 := ⟨hb2.os, hb2.tape, hb2.output, hb2.size, hb2.block⟩; have hx0' := (HX0.out.kept (Below.grow0 hb2') (by simp)).cell; have hx2' := (HX2.out.below hb2').cell; obtain ⟨q0', q1', q2', q3', q4', q5', q6', q7', q8'⟩ := nine hx2'; clear hw1 hb2 hb2' hx2')
           dsimp only
           refine hK _ _ ?_
           clear hK K
           refine wpAnyIn_ready (rs := [5]) (by kernel_rfl) (by simp) ?_
           refine AllReadyIn.cons rfl (fun K hK => ?_) ?_
           ·go_simp
            (refine (HN2.out _).mono ?_; rintro e w3 ⟨g2, m2, v2, rfl, hw2, hb3⟩; have HWB := Hid.intro hw2; have HBB := Hid.intro hb3; clear hw2 hb3)
            dsimp only
            refine hK _ _ ?_
            clear hK K
            refine wpAnyIn_ready (rs := [6]) (by kernel_rfl) (by simp) ?_
            refine AllReadyIn.cons rfl (fun K hK => ?_) ?_
            ·go_simp
             refine hK _ _ ?_
             clear hK K
             refine wpAnyIn_ready (rs := [7]) (by kernel_rfl) (by simp) ?_
             refine AllReadyIn.cons rfl (fun K hK => ?_) ?_
             ·go_simp
              refine hK _ _ ?_
              clear hK K
              refine wpAnyIn_done (by kernel_rfl) ?_ _
              gi_wp2
              exact ⟨g1, m1, v1, g2, m2, v2, rfl, two_tail hs1 HWA.out HBA.out HWB.out HBB.out⟩
             exact AllReadyIn.nil
            exact AllReadyIn.nil
           exact AllReadyIn.nil
          exact AllReadyIn.nil
         exact AllReadyIn.nil
        refine AllReadyIn.cons rfl (fun K hK => ?_) ?_
        ·go_simp
         refine hK _ _ ?_
         clear hK K
         refine wpAnyIn_ready (rs := [0]) (by kernel_rfl) (by simp) ?_
         refine AllReadyIn.cons rfl (fun K hK => ?_) ?_
         ·go_simp
          refine hK _ _ ?_
          clear hK K
          refine wpAnyIn_ready (rs := [2]) (by kernel_rfl) (by simp) ?_
          refine AllReadyIn.cons rfl (fun K hK => ?_) ?_
          ·go_simp
           (refine HN1.out.mono ?_; rintro e w2 ⟨g1, m1, v1, rfl, hw1, hb2⟩; have HWA := Hid.intro hw1; have HBA := Hid.intro hb2; have hb2' : Below W1.heap.size W1 w2 := ⟨hb2.os, hb2.tape, hb2.output, hb2.size, hb2.block⟩; have hx0' := (HX0.out.kept (Below.grow0 hb2') (by simp)).cell; have hx2' := (HX2.out.below hb2').cell; obtain ⟨q0', q1', q2', q3', q4', q5', q6', q7', q8'⟩ := nine hx2'; clear hw1 hb2 hb2' hx2')
           dsimp only
           refine hK _ _ ?_
           clear hK K
           refine wpAnyIn_ready (rs := [5]) (by kernel_rfl) (by simp) ?_
           refine AllReadyIn.cons rfl (fun K hK => ?_) ?_
           ·go_simp
            (refine (HN2.out _).mono ?_; rintro e w3 ⟨g2, m2, v2, rfl, hw2, hb3⟩; have HWB := Hid.intro hw2; have HBB := Hid.intro hb3; clear hw2 hb3)
            dsimp only
            refine hK _ _ ?_
            clear hK K
            refine wpAnyIn_ready (rs := [6]) (by kernel_rfl) (by simp) ?_
            refine AllReadyIn.cons rfl (fun K hK => ?_) ?_
            ·go_simp
             refine hK _ _ ?_
             clear hK K
             refine wpAnyIn_ready (rs := [7]) (by kernel_rfl) (by simp) ?_
             refine AllReadyIn.cons rfl (fun K hK => ?_) ?_
             ·go_simp
              refine hK _ _ ?_
              clear hK K
              refine wpAnyIn_done (by kernel_rfl) ?_ _
              gi_wp2
              exact ⟨g1, m1, v1, g2, m2, v2, rfl, two_tail hs1 HWA.out HBA.out HWB.out HBB.out⟩
             exact AllReadyIn.nil
            exact AllReadyIn.nil
           exact AllReadyIn.nil
          exact AllReadyIn.nil
         exact AllReadyIn.nil
        exact AllReadyIn.nil
       exact AllReadyIn.nil
      exact AllReadyIn.nil
    case rest =>
      rintro a' W2 ⟨g1, m1, v1, g2, m2, v2, rfl, hw1, hw2, hne, hb2⟩
      dsimp only
      clear HRUN p0 p1 p2 p3 p4 p5 p6 p7 p8 q0 q1 q2 q3 q4 q5 q6 q7 q8 HN1 HN2 hx0
      obtain ⟨W3, hW3⟩ : ∃ W3, W3 = W2.alloc (.cells (pos9 fun _ => 0) 83) := ⟨_, rfl⟩
      have HPM : Hid (PosBox W3 W2.heap.size fun _ => 0) := by rw [hW3]; exact World.alloc_heap_new _ _
      have HB23 : Hid (Below W2.heap.size W2 W3) := by rw [hW3]; exact (Below.refl _ _).alloc (Nat.le_refl _) _
      have hsB : w.heap.size + 3 ≤ W2.heap.size := by have := hb2.size; omega
      have HST : Hid (TwoAt qs N p q (w.heap.size + 3) gb g1 m1 g2 m2 W2.heap.size 0 0 [⟨p, p, 0⟩] [⟨q, q, 0⟩] [p] [q] W1 W3) := by
        have nr : ∀ (v : Value) (g m : Nat) (es : List Known) (L : List (Nat → Int)), WaveAt (w.heap.size + 3) gb g m v es L W2 → v.ownBlock ≠ some W2.heap.size := fun v g m es L hw e => by have := (hw.row.lt _ e).2; omega
        have ok : ∀ z, Pos N z → WaveOK qs N z 0 [⟨z, z, 0⟩] [z] := fun z hz => ⟨hz, Wave.start _ _, fun k hk => by simp at hk; subst hk; exact ⟨DistE.zero, .inl ⟨rfl, rfl⟩⟩⟩
        exact ⟨⟨v1, hw1.later HB23.out, nr _ _ _ _ _ hw1⟩, ⟨v2, hw2.later HB23.out, nr _ _ _ _ _ hw2⟩, ok p HP.out, ok q HP2.out, hne, ⟨_, HPM.out, hsB⟩, hb2.trans (HB23.out.mono hsB)⟩
      have HAP : Hid (Apart [⟨p, p, 0⟩] [⟨q, q, 0⟩]) := fun z h1 h2 => by
        simp at h1 h2
        have := (same9_eq hN.2 HP.out HP2.out).2 (h1.symm.trans h2)
        rw [HPQ.out] at this
        cases this
      unfold pos9 at hW3
      have HW3 := Hid.intro hW3
      clear hW3 hw1 hw2 hb2
      gi_wp2
      refine wpIn_label ?_
      rw [← HW3.out]
      gi_wp2
      gi_loopw [11] (fun f wr => ∃ (D1 D2 : Nat) (es1 es2 : List Known) (L1 L2 : List (Nat → Int)) (fb : Bool), f = .bool fb ∧ Hid (TwoAt qs N p q (w.heap.size + 3) gb g1 m1 g2 m2 W2.heap.size D1 D2 es1 es2 L1 L2 W1 wr) ∧ Hid (fb = false → Apart es1 es2 ∧ L1 ≠ [] ∧ L2 ≠ [] ∧ D1 < es1.length ∧ D2 < es2.length) ∧ Hid (fb = true → ∃ x k1 k2, PosBox wr W2.heap.size x ∧ Pos N x ∧ lookK es1 x = some k1 ∧ lookK es2 x = some k2 ∧ DistE (Mov qs N) p (k1.depth + k2.depth) q)) (fun f wr => match f with | .bool true => 0 | _ => 1000000 - (mapSize wr m1 + mapSize wr m2))
      case atStart => exact ⟨0, 0, _, _, _, _, false, rfl, HST.out, Hid.intro (fun _ => ⟨HAP.out, by simp, by simp, by simp, by simp⟩), Hid.intro (fun h => by cases h)⟩
      case round =>
        obtain ⟨D1, D2, es1, es2, L1, L2, fb, rfl, HTw, HF, HTr⟩ := hrel
        cases fb with
        | true =>
          clear HF HST HAP HPM HB23 HW3
          obtain ⟨x, k1, k2, hx, hxp, hk1, hk2, hdist⟩ := (by first | exact HTr.out rfl | exact HTr.out trivial : ∃ x k1 k2, PosBox wr W2.heap.size x ∧ Pos N x ∧ lookK es1 x = some k1 ∧ lookK es2 x = some k2 ∧ DistE (Mov qs N) p (k1.depth + k2.depth) q)
          obtain ⟨v1, hw1, _⟩ := HTw.out.w1
          obtain ⟨v2, hw2, _⟩ := HTw.out.w2
          have hwB : w.heap.size + 3 ≤ wr.heap.size := by have := HTw.out.low.size; omega
          have HX := Hid.intro hx
          have HXP := Hid.intro hxp
          have HK1 := Hid.intro hk1
          have HK2 := Hid.intro hk2
          have HD := Hid.intro hdist
          have HWA := Hid.intro hw1
          have HWB := Hid.intro hw2
          have hxl := hx.lt
          have d1l : k1.depth ≤ 362880 ∧ (∀ z d, DistE (Mov qs N) p d z → d ≤ k1.depth → ∃ c, lookK es1 z = some c) := known_all hN.2 HTw.out.k1 hxp hk1
          have d2l : k2.depth ≤ 362880 ∧ (∀ z d, DistE (Mov qs N) q d z → d ≤ k2.depth → ∃ c, lookK es2 z = some c) := known_all hN.2 HTw.out.k2 hxp hk2
          have HD1 := Hid.intro d1l
          have HD2 := Hid.intro d2l
          obtain ⟨W4, hW4⟩ : ∃ W4, W4 = wr.alloc (.cells #[.slice none 0 0] 38) := ⟨_, rfl⟩
          have HB4 : Hid (Below wr.heap.size wr W4) := by rw [hW4]; exact (Below.refl _ _).alloc (Nat.le_refl _) _
          have HO4 : Hid (OutAt W4 wr.heap.size (.slice none 0 0) []) := by rw [hW4]; exact ⟨Boxed.new wr 38 _, World.ownsRow_nil _ _ _ _⟩
          have hs4 : W4.heap.size = wr.heap.size + 1 := by rw [hW4]; simp
          have HXB : Hid (Boxed W4 w.heap.size 78 (.pointer (some ⟨gb, 0, none⟩))) := (HB4.out.block _ (by omega)).trans ((HTw.out.low.block _ (by omega)).trans HX0.out)
          have HX4 : Hid (PosBox W4 W2.heap.size x) := hx.below HB4.out
          have HLow4 : Hid (Below (w.heap.size + 3) W1 W4) := HTw.out.low.trans (HB4.out.mono hwB)
          have HBD4 : Hid (BoardAt W4 gb N (nxs qs)) := (HBD.out.from hgb HB1.out).from (base := w.heap.size + 3) (by omega) HLow4.out
          have hgl1 := hw1.edge.2.2
          have hgl2 := hw2.edge.2.2
          have hml1 := hw1.map.lt
          have hml2 := hw2.map.lt
          have HBk1 := Hid.intro (back67_calls W4 gb g1 m1 wr.heap.size w.heap.size N hN qs p HP.out es1 ⟨v1, (HB4.out.block g1 hgl1).trans hw1.st⟩ (hw1.map.kept (HB4.out.block m1 hml1)) HTw.out.k1.kn HBD4.out x hxp k1 hk1 (.slice none 0 0) [] (by simp; omega) HO4.out HXB.out ⟨hgl1, hml1, by omega, by omega⟩ d1l.2)
          have HBk2 : Hid (∀ w' v ms, Below wr.heap.size W4 w' → OutAt w' wr.heap.size v ms → ms.length + k2.depth ≤ 1000000 → CallsIn Fence.wide 0 Tryd.prog 66 #[.pointer (some ⟨g2, 0, none⟩), .agg (pos9 x), .func (.func 69) #[] #[.pointer (some ⟨wr.heap.size, 0, none⟩), .pointer (some ⟨w.heap.size, 0, none⟩)]] w' fun e w'' => (∃ v, e = .returned v) ∧ (∃ v' ys, OutAt w'' wr.heap.size v' (ms ++ holesDn N x ys) ∧ DownTo qs N q x ys ∧ ys.length = k2.depth) ∧ Below wr.heap.size w' w'') := fun w' v ms hb ho hl =>
            back69_calls w' gb g2 m2 wr.heap.size w.heap.size N hN qs q HP2.out es2 ⟨v2, (hb.block g2 hgl2).trans ((HB4.out.block g2 hgl2).trans HWB.out.st)⟩ (HWB.out.map.kept ((hb.block m2 hml2).trans (HB4.out.block m2 hml2))) HTw.out.k2.kn (HBD4.out.from (base := wr.heap.size) (by omega) hb) x HXP.out k2 HK2.out v ms hl ho ((hb.block _ (by omega)).trans HXB.out) ⟨hgl2, hml2, by omega, by omega⟩ HD2.out.2
          have m0 := HX4.out.cell 0 (by omega)
          have m1' := HX4.out.cell 1 (by omega)
          have m2' := HX4.out.cell 2 (by omega)
          have m3 := HX4.out.cell 3 (by omega)
          have m4 := HX4.out.cell 4 (by omega)
          have m5 := HX4.out.cell 5 (by omega)
          have m6 := HX4.out.cell 6 (by omega)
          have m7 := HX4.out.cell 7 (by omega)
          have m8 := HX4.out.cell 8 (by omega)
          have HW4 := Hid.intro hW4
          clear hx hxp hk1 hk2 hdist hw1 hw2 d1l d2l hW4
          have hxc := HX.out.cell
          have x0 := hxc 0 (by omega)
          have x1 := hxc 1 (by omega)
          have x2 := hxc 2 (by omega)
          have x3 := hxc 3 (by omega)
          have x4 := hxc 4 (by omega)
          have x5 := hxc 5 (by omega)
          have x6 := hxc 6 (by omega)
          have x7 := hxc 7 (by omega)
          have x8 := hxc 8 (by omega)
          clear hxc m0 m1' m2' m3 m4 m5 m6 m7 m8
          unfold pos9 at HBk1 HBk2
          gi_wp2_with (rw [← HW4.out]; gi_at_call 66; refine HBk1.out.mono ?_; rintro e w5 ⟨⟨u1, rfl⟩, ⟨vo5, ys, ho5, hdn5, hyl5⟩, hb5⟩; rw [List.nil_append] at ho5; have HO5 := Hid.intro ho5; have HDN5 := Hid.intro hdn5; have HB5 := Hid.intro hb5; have c5 := ho5.box.cell; have hb5l := ho5.box.lt; refine stop ?_)
          unfold Stop
          have hul : (holesUp N x ys).length ≤ 362880 := by rw [holesUp_len]; have := HD1.out.1; omega
          have HRev := Hid.intro (reverse_out w5 wr.heap.size vo5 (holesUp N x ys) (by omega) HO5.out)
          clear ho5 hdn5 hb5 x0 x1 x2 x3 x4 x5 x6 x7 x8
          gi_wp2_with (gi_at_call 68; refine HRev.out.mono ?_; rintro e w6 ⟨⟨u2, rfl⟩, ho6, hb6⟩; have HO6 := Hid.intro ho6; have HB46 := Hid.intro (HB5.out.trans hb6); have HX6 := Hid.intro (HX4.out.kept ((HB5.out.trans hb6).block W2.heap.size hxl)); clear ho6 hb6; refine stop ?_)
          unfold Stop
          have hxc := HX6.out.cell
          have x0 := hxc 0 (by omega)
          have x1 := hxc 1 (by omega)
          have x2 := hxc 2 (by omega)
          have x3 := hxc 3 (by omega)
          have x4 := hxc 4 (by omega)
          have x5 := hxc 5 (by omega)
          have x6 := hxc 6 (by omega)
          have x7 := hxc 7 (by omega)
          have x8 := hxc 8 (by omega)
          have HBk2' := Hid.intro (HBk2.out w6 vo5 (holesUp N x ys).reverse HB46.out HO6.out (by rw [List.length_reverse]; have := HD2.out.1; omega))
          clear hxc c5
          gi_wp2_with (gi_at_call 66; refine HBk2'.out.mono ?_; rintro e w7 ⟨⟨u3, rfl⟩, ⟨vo7, zs, ho7, hdn7, hyl7⟩, hb7⟩; have HO7 := Hid.intro ho7; have HDN7 := Hid.intro hdn7; have HB7 := Hid.intro hb7; have c7 := ho7.box.cell; clear ho7 hdn7 hb7)
          simp only [noGoto]
          refine bodyPost_ret (v := .tuple #[vo7, .bool true]) (by simp [results, Tryd.results56, go_sem]) rfl ?_
          refine ⟨.inl ⟨vo7, (holesUp N x ys).reverse ++ holesDn N x zs, rfl, NumsAt.ints HO7.out.row, HDN5.out.up.append HDN7.out.dn, ?_⟩, HB1.out.trans ((HLow4.out.trans ((HB46.out.trans HB7.out).mono hwB)).mono (by omega))⟩
          rw [List.length_append, List.length_reverse, holesUp_len, holesDn_len, hyl5, hyl7]
          exact HD.out
        | false =>
          clear HTr HST HAP HPM HB23 HW3
          have hap := HF.out rfl
          obtain ⟨v1, hw1, hv1⟩ := HTw.out.w1
          obtain ⟨v2, hw2, hv2⟩ := HTw.out.w2
          obtain ⟨o1, c1, rfl⟩ := hw1.slice
          obtain ⟨o2, c2, rfl⟩ := hw2.slice
          have e1 := hw1.edge.1
          have e2 := hw2.edge.1
          have n1 := (HTw.out.k1.count hN.2).2
          have n2 := (HTw.out.k2.count hN.2).2
          have HBT : Hid (TabsIn wr) := (HT.out.below HB1.out).from (by omega) HTw.out.low
          have HBB : Hid (BoardAt wr gb N (nxs qs)) := (HBD.out.from hgb HB1.out).from (base := w.heap.size + 3) (by omega) HTw.out.low
          have hN1 := (HTw.out.k1.count hN.2).1
          have hN2 := (HTw.out.k2.count hN.2).1
          rcases Nat.lt_or_ge L2.length L1.length with hlt | hlt
          case' inl =>
            obtain ⟨HWw, HWo, HKw, HKo, HApp⟩ : Hid (WaveAt (w.heap.size + 3) gb g2 m2 (.slice o2 L2.length c2) es2 L2 wr) ∧ Hid (WaveAt (w.heap.size + 3) gb g1 m1 (.slice o1 L1.length c1) es1 L1 wr) ∧ Hid (WaveOK qs N q D2 es2 L2) ∧ Hid (WaveOK qs N p D1 es1 L1) ∧ Hid (Apart es2 es1) := ⟨hw2, hw1, HTw.out.k2, HTw.out.k1, hap.1.symm⟩
            have hDw : D2 ≤ 1000000 := by omega
            obtain ⟨go, hgo⟩ : ∃ x, x = g1 := ⟨_, rfl⟩
            obtain ⟨mo, hmo⟩ : ∃ x, x = m1 := ⟨_, rfl⟩
            obtain ⟨Do, hDo⟩ : ∃ x, x = D1 := ⟨_, rfl⟩
            obtain ⟨eo, heo⟩ : ∃ x, x = es1 := ⟨_, rfl⟩
            obtain ⟨mw, hmw⟩ : ∃ x, x = m2 := ⟨_, rfl⟩
            obtain ⟨ew, hew⟩ : ∃ x, x = es2 := ⟨_, rfl⟩
            obtain ⟨Dw, hDw'⟩ : ∃ x, x = D2 := ⟨_, rfl⟩
            have HNAM := Hid.intro (And.intro hgo (And.intro hmo (And.intro hDo (And.intro heo (And.intro hmw (And.intro hew hDw'))))))
            clear hgo hmo hDo heo hmw hew hDw'
            have hno : (.slice o1 L1.length c1 : Value).ownBlock ≠ some W2.heap.size := hv1
            have hneg : g2 ≠ g1 ∧ m2 ≠ m1 := ⟨fun e => hne.1 e.symm, fun e => hne.2 e.symm⟩
          case' inr =>
            have hlt' : ¬ L2.length < L1.length := by omega
            obtain ⟨HWw, HWo, HKw, HKo, HApp⟩ : Hid (WaveAt (w.heap.size + 3) gb g1 m1 (.slice o1 L1.length c1) es1 L1 wr) ∧ Hid (WaveAt (w.heap.size + 3) gb g2 m2 (.slice o2 L2.length c2) es2 L2 wr) ∧ Hid (WaveOK qs N p D1 es1 L1) ∧ Hid (WaveOK qs N q D2 es2 L2) ∧ Hid (Apart es1 es2) := ⟨hw1, hw2, HTw.out.k1, HTw.out.k2, hap.1⟩
            have hDw : D1 ≤ 1000000 := by omega
            obtain ⟨go, hgo⟩ : ∃ x, x = g2 := ⟨_, rfl⟩
            obtain ⟨mo, hmo⟩ : ∃ x, x = m2 := ⟨_, rfl⟩
            obtain ⟨Do, hDo⟩ : ∃ x, x = D2 := ⟨_, rfl⟩
            obtain ⟨eo, heo⟩ : ∃ x, x = es2 := ⟨_, rfl⟩
            obtain ⟨mw, hmw⟩ : ∃ x, x = m1 := ⟨_, rfl⟩
            obtain ⟨ew, hew⟩ : ∃ x, x = es1 := ⟨_, rfl⟩
            obtain ⟨Dw, hDw'⟩ : ∃ x, x = D1 := ⟨_, rfl⟩
            have HNAM := Hid.intro (And.intro hgo (And.intro hmo (And.intro hDo (And.intro heo (And.intro hmw (And.intro hew hDw'))))))
            clear hgo hmo hDo heo hmw hew hDw'
            have hno : (.slice o2 L2.length c2 : Value).ownBlock ≠ some W2.heap.size := hv2
            have hneg : g1 ≠ g2 ∧ m1 ≠ m2 := hne
          all_goals
            have HGr := Hid.intro (grow_calls wr.drew HBT.out (w.heap.size + 3) gb _ _ N qs hN HQ.out ⟨HBB.out.n, HBB.out.next⟩ _ _ _ HWw.out.drew _ _ hDw HKw.out)
            clear hw1 hw2 hv1 hv2 hap
            gi_wp2
            refine wpIn_region_lexS (ro := none) [] [[0], [0], [0], [0], [0], [0], [0], [0], [0], [0], [0]] (fun _ => wr.drew) follows 98 rfl (by kernel_rfl) rfl ?_
            refine LexS.read (.pointer (some ⟨g2, 0, none⟩)) rfl ?_ ?_
            · intro s hs
              simp only [List.mem_cons, List.not_mem_nil, or_false] at hs
              subst hs
              simp [execOp, go_sem]
            simp only [Go.Act.put, List.setIfInBounds_toArray, List.set_cons_succ, List.set_cons_zero, Nat.zero_add, Nat.reduceAdd]
            refine LexS.read (.pointer (some ⟨g2, 0, none⟩)) rfl ?_ ?_
            · intro s hs
              simp only [List.mem_cons, List.not_mem_nil, or_false] at hs
              subst hs
              simp [execOp, go_sem]
            simp only [Go.Act.put, List.setIfInBounds_toArray, List.set_cons_succ, List.set_cons_zero, Nat.zero_add, Nat.reduceAdd]
            refine LexS.read (.pointer (some ⟨g2, 2, none⟩)) rfl ?_ ?_
            · intro s hs
              simp only [List.mem_cons, List.not_mem_nil, or_false] at hs
              subst hs
              simp [execOp, go_sem]
            simp only [Go.Act.put, List.setIfInBounds_toArray, List.set_cons_succ, List.set_cons_zero, Nat.zero_add, Nat.reduceAdd]
            refine LexS.read (.slice o2 L2.length c2) rfl ?_ ?_
            · intro s hs
              simp only [List.mem_cons, List.not_mem_nil, or_false] at hs
              subst hs
              simp [execOp, go_sem, e2]
            simp only [Go.Act.put, List.setIfInBounds_toArray, List.set_cons_succ, List.set_cons_zero, Nat.zero_add, Nat.reduceAdd]
            refine LexS.read (.int .i64 (L2.length : Int)) rfl ?_ ?_
            · intro s hs
              simp only [List.mem_cons, List.not_mem_nil, or_false] at hs
              subst hs
              simp [execOp, go_sem]
            simp only [Go.Act.put, List.setIfInBounds_toArray, List.set_cons_succ, List.set_cons_zero, Nat.zero_add, Nat.reduceAdd]
            refine LexS.read (.pointer (some ⟨g1, 0, none⟩)) rfl ?_ ?_
            · intro s hs
              simp only [List.mem_cons, List.not_mem_nil, or_false] at hs
              subst hs
              simp [execOp, go_sem]
            simp only [Go.Act.put, List.setIfInBounds_toArray, List.set_cons_succ, List.set_cons_zero, Nat.zero_add, Nat.reduceAdd]
            refine LexS.read (.pointer (some ⟨g1, 0, none⟩)) rfl ?_ ?_
            · intro s hs
              simp only [List.mem_cons, List.not_mem_nil, or_false] at hs
              subst hs
              simp [execOp, go_sem]
            simp only [Go.Act.put, List.setIfInBounds_toArray, List.set_cons_succ, List.set_cons_zero, Nat.zero_add, Nat.reduceAdd]
            refine LexS.read (.pointer (some ⟨g1, 2, none⟩)) rfl ?_ ?_
            · intro s hs
              simp only [List.mem_cons, List.not_mem_nil, or_false] at hs
              subst hs
              simp [execOp, go_sem]
            simp only [Go.Act.put, List.setIfInBounds_toArray, List.set_cons_succ, List.set_cons_zero, Nat.zero_add, Nat.reduceAdd]
            refine LexS.read (.slice o1 L1.length c1) rfl ?_ ?_
            · intro s hs
              simp only [List.mem_cons, List.not_mem_nil, or_false] at hs
              subst hs
              simp [execOp, go_sem, e1]
            simp only [Go.Act.put, List.setIfInBounds_toArray, List.set_cons_succ, List.set_cons_zero, Nat.zero_add, Nat.reduceAdd]
            refine LexS.read (.int .i64 (L1.length : Int)) rfl ?_ ?_
            · intro s hs
              simp only [List.mem_cons, List.not_mem_nil, or_false] at hs
              subst hs
              simp [execOp, go_sem]
            simp only [Go.Act.put, List.setIfInBounds_toArray, List.set_cons_succ, List.set_cons_zero, Nat.zero_add, Nat.reduceAdd]
            refine LexS.read (.bool (decide (L2.length < L1.length))) rfl ?_ ?_
            · intro s hs
              simp only [List.mem_cons, List.not_mem_nil, or_false] at hs
              subst hs
              simp [execOp, go_sem]
            simp only [Go.Act.put, List.setIfInBounds_toArray, List.set_cons_succ, List.set_cons_zero, Nat.zero_add, Nat.reduceAdd]
            refine LexS.done ?_
            first
              | rw [show decide (L2.length < L1.length) = true from by simp only [hlt, decide_true]]
              | rw [show decide (L2.length < L1.length) = false from by simp only [hlt', decide_false]]
            clear e1 e2
            gi_wp2_with (gi_at_call 65; refine HGr.out.mono ?_; rintro e w5 ⟨ns, v5, rfl, hw5, ho5, hk5, hr5⟩; have HW5 := Hid.intro hw5; have HO5 := Hid.intro ho5; have HK5 := Hid.intro hk5; have HR5 := Hid.intro hr5; obtain ⟨o5, c5, rfl⟩ := hw5.slice; have e5 := hw5.edge.1; clear hw5 ho5 hk5 hr5; rw [List.length_map] at e5; rcases Nat.eq_zero_or_pos ns.length with hn0 | hn0)
            · have hns : ns = [] := List.length_eq_zero_iff.1 hn0
              subst hns
              have hO := HO5.out
              rw [List.append_nil] at hO
              have hwB : w.heap.size + 3 ≤ wr.heap.size := by have := HTw.out.low.size; omega
              have HL5 : Hid (Below (w.heap.size + 3) W1 w5) := HTw.out.low.trans (((drewN_below0 wr).mono hwB).trans (HK5.out.below hwB HWw.out.lo.1 HWw.out.lo.2))
              simp only [noGoto]
              refine bodyPost_ret (v := .tuple #[.slice none 0 0, .bool false]) (by simp [results, Tryd.results56, go_sem]) rfl ?_
              refine ⟨.inr ⟨?_, rfl⟩, HB1.out.trans (HL5.out.mono (by omega))⟩
              first
                | exact fun d => apart_never hO HKo.out HApp.out d
                | exact fun d => no_walk_symm d (fun d => apart_never hO HKo.out HApp.out d)
            · obtain ⟨hgo, hmo, hDo, heo, hmw, hew, hDw'⟩ := HNAM.out
              clear HNAM
              subst hgo
              subst hmo
              subst hDo
              subst heo
              subst hmw
              subst hew
              subst hDw'
              obtain ⟨wo, hwo⟩ : ∃ x, x = wr := ⟨_, rfl⟩
              subst hwo
              have hwB : w.heap.size + 3 ≤ wo.heap.size := by have := HTw.out.low.size; omega
              have HL5 : Hid (Below (w.heap.size + 3) W1 w5) := HTw.out.low.trans (((drewN_below0 wo).mono hwB).trans (HK5.out.below hwB HWw.out.lo.1 HWw.out.lo.2))
              have HWo5 := Hid.intro (WaveAt.kept HWo.out.drew HWw.out.drew hneg.1 hneg.2 HK5.out)
              obtain ⟨z0, hz0, hMB⟩ := HTw.out.box
              have hMl := hz0.lt
              have HM5 : Hid (∃ z, PosBox w5 W2.heap.size z) := ⟨z0, PosBox.keptBut (w := wo.drew) hz0 HWw.out.drew HK5.out⟩
              have hnl := (HO5.out.count hN.2).2
              rw [List.length_map] at hnl
              have hnpos : 0 < ns.length := hn0
              have HR5' : Hid (∀ b, (Value.slice o5 (ns.map (·.at_)).length c5).ownBlock = some b → b ≠ W2.heap.size) := fun b hb => by have h1 : wo.heap.size ≤ b := HR5.out b hb; omega
              clear e5 hz0 HR5
              have e5 := HW5.out.edge.1
              gi_loopw [14, 55, 11] (fun b j f wi => ∃ (k : Nat) (fb : Bool), k ≤ ns.length ∧ j = .int .i64 (k : Int) ∧ f = .bool fb ∧ b = .int .i64 (bif fb then (Do : Int) else 0) ∧ Hid (fb = false → ∀ i z, i < k → (ns.map (·.at_))[i]? = some z → lookK eo z = none) ∧ Hid (fb = true → ∃ x, PosBox wi W2.heap.size x ∧ x ∈ ns.map (·.at_) ∧ ∃ ko, lookK eo x = some ko) ∧ Hid (w5.grownBy wi (some W2.heap.size)) ∧ Hid (∃ z, PosBox wi W2.heap.size z)) (fun _ j _ _ => ns.length - (intOf j).toNat)
              case atStart => exact ⟨0, false, by omega, rfl, rfl, rfl, Hid.intro (fun _ i z hi => absurd hi (by omega)), Hid.intro (fun h => by cases h), ⟨rfl, rfl, rfl, Nat.le_refl _, fun _ _ _ => rfl⟩, HM5.out⟩
              case round =>
                obtain ⟨k, fb, hk, rfl, rfl, rfl, HF0, HF1, HGw, HPMb⟩ := hrel
                obtain ⟨zM, hzM⟩ := HPMb.out
                have hMg := boxM_ne HM5.out HW5.out
                have hMg2 := boxM_ne HM5.out HWo5.out
                have HW6 := Hid.intro (HW5.out.grown HGw.out hMg (fun e => HR5'.out _ e rfl))
                have HWo6 := Hid.intro (HWo5.out.grown HGw.out hMg2 hno)
                by_cases hkn : k < ns.length
                · obtain ⟨z, hz⟩ : ∃ z, (ns.map (·.at_))[k]? = some z := ⟨_, List.getElem?_eq_getElem (by rw [List.length_map]; exact hkn)⟩
                  obtain ⟨r, hoe, hrl, hrc⟩ := edge_cells HW6.out hz
                  subst hoe
                  have HZ := Hid.intro hz
                  have hzm : z ∈ ns.map (·.at_) := List.mem_of_getElem? hz
                  have hzd : DistE (Mov qs N) _ _ z := (HO5.out.wave.lm z).1 hzm
                  have HZP : Hid (Pos N z) := hzd.1.pos HKw.out.pos
                  have HZD := Hid.intro hzd
                  have r0 : wr.cell? ⟨r, k * 9, none⟩ = some (.int .i8 (z 0)) := hrc 0 (by omega)
                  have r1 := hrc 1 (by omega)
                  have r2 := hrc 2 (by omega)
                  have r3 := hrc 3 (by omega)
                  have r4 := hrc 4 (by omega)
                  have r5 := hrc 5 (by omega)
                  have r6 := hrc 6 (by omega)
                  have r7 := hrc 7 (by omega)
                  have r8 := hrc 8 (by omega)
                  clear hz hrc hzd
                  gi_wp2
                  obtain ⟨W6, hW6⟩ : ∃ W6, W6 = wr.alloc (.cells (pos9 z) 83) := ⟨_, rfl⟩
                  have HB6 : Hid (Below wr.heap.size wr W6) := by rw [hW6]; exact (Below.refl _ _).alloc (Nat.le_refl _) _
                  have HP6 : Hid (PosBox W6 wr.heap.size z) := by rw [hW6]; exact World.alloc_heap_new _ _
                  have hs6 : W6.heap.size = wr.heap.size + 1 := by rw [hW6]; simp
                  unfold pos9 at hW6
                  rw [← hW6]
                  clear hW6 r0 r1 r2 r3 r4 r5 r6 r7 r8
                  have HW6' := Hid.intro (HWo6.out.later HB6.out)
                  have HM6 : Hid (PosBox W6 W2.heap.size zM) := hzM.below HB6.out
                  have hcg := HW6'.out.edge.2.1
                  have hN0 := HP6.out.cell
                  have n0 := hN0 0 (by omega)
                  have t0 : (W6.alloc (.cells Z107 107)).cell? ⟨wr.heap.size, 0, none⟩ = _ := cell_al _ n0
                  have n1' := hN0 1 (by omega)
                  have t1 : (W6.alloc (.cells Z107 107)).cell? ⟨wr.heap.size, 1, none⟩ = _ := cell_al _ n1'
                  have n2' := hN0 2 (by omega)
                  have t2 : (W6.alloc (.cells Z107 107)).cell? ⟨wr.heap.size, 2, none⟩ = _ := cell_al _ n2'
                  have n3 := hN0 3 (by omega)
                  have t3 : (W6.alloc (.cells Z107 107)).cell? ⟨wr.heap.size, 3, none⟩ = _ := cell_al _ n3
                  have n4 := hN0 4 (by omega)
                  have t4 : (W6.alloc (.cells Z107 107)).cell? ⟨wr.heap.size, 4, none⟩ = _ := cell_al _ n4
                  have n5 := hN0 5 (by omega)
                  have t5 : (W6.alloc (.cells Z107 107)).cell? ⟨wr.heap.size, 5, none⟩ = _ := cell_al _ n5
                  have n6 := hN0 6 (by omega)
                  have t6 : (W6.alloc (.cells Z107 107)).cell? ⟨wr.heap.size, 6, none⟩ = _ := cell_al _ n6
                  have n7 := hN0 7 (by omega)
                  have t7 : (W6.alloc (.cells Z107 107)).cell? ⟨wr.heap.size, 7, none⟩ = _ := cell_al _ n7
                  have n8 := hN0 8 (by omega)
                  have t8 : (W6.alloc (.cells Z107 107)).cell? ⟨wr.heap.size, 8, none⟩ = _ := cell_al _ n8
                  have hcg' : (W6.alloc (.cells Z107 107)).cell? ⟨go, 1, none⟩ = _ := cell_al _ hcg
                  obtain ⟨bb, dd, ok, hlk, hok2⟩ := look_any2 (es := eo) z (W := W6) HW6'.out.map (.cells Z107 107)
                  have l0 := hlk.1
                  have l1 := hlk.2
                  have HOK2 := Hid.intro hok2
                  clear hN0 hlk hok2 hzM
                  refine wpIn_region_lexS (ro := none) [9, 10] [[0, 1], [0, 1], [0, 1], [0, 1], [0, 1], [0, 1], [0, 1], [0, 1], [0, 1, 2], [0, 1], [1, 2], [2]]
                    (fun s => match s with | 0 => W6.drew | 1 => W6.drew.alloc (.cells Z107 107) | _ => W6.drew.alloc (.cells (stepA bb dd) 107)) follows 98 rfl (by kernel_rfl) rfl ?_
                  refine LexS.read (.pointer (some ⟨go, 0, none⟩)) rfl ?_ ?_
                  · intro s hs
                    simp only [List.mem_cons, List.not_mem_nil, or_false] at hs
                    rcases hs with rfl | rfl <;> simp [execOp, go_sem]
                  simp only [Go.Act.put, List.setIfInBounds_toArray, List.set_cons_succ, List.set_cons_zero, Nat.zero_add, Nat.reduceAdd]
                  refine LexS.read (.pointer (some ⟨go, 0, none⟩)) rfl ?_ ?_
                  · intro s hs
                    simp only [List.mem_cons, List.not_mem_nil, or_false] at hs
                    rcases hs with rfl | rfl <;> simp [execOp, go_sem]
                  simp only [Go.Act.put, List.setIfInBounds_toArray, List.set_cons_succ, List.set_cons_zero, Nat.zero_add, Nat.reduceAdd]
                  refine LexS.read (.pointer (some ⟨go, 1, none⟩)) rfl ?_ ?_
                  · intro s hs
                    simp only [List.mem_cons, List.not_mem_nil, or_false] at hs
                    rcases hs with rfl | rfl <;> simp [execOp, go_sem]
                  simp only [Go.Act.put, List.setIfInBounds_toArray, List.set_cons_succ, List.set_cons_zero, Nat.zero_add, Nat.reduceAdd]
                  refine LexS.read (.map (some mo)) rfl ?_ ?_
                  · intro s hs
                    simp only [List.mem_cons, List.not_mem_nil, or_false] at hs
                    rcases hs with rfl | rfl <;> simp [execOp, go_sem, hcg, hcg']
                  simp only [Go.Act.put, List.setIfInBounds_toArray, List.set_cons_succ, List.set_cons_zero, Nat.zero_add, Nat.reduceAdd]
                  refine LexS.read (.agg (pos9 z)) rfl ?_ ?_
                  · intro s hs
                    simp only [List.mem_cons, List.not_mem_nil, or_false] at hs
                    rcases hs with rfl | rfl <;> simp [execOp, go_sem, n0, n1', n2', n3, n4, n5, n6, n7, n8, t0, t1, t2, t3, t4, t5, t6, t7, t8, pos9]
                  simp only [Go.Act.put, List.setIfInBounds_toArray, List.set_cons_succ, List.set_cons_zero, Nat.zero_add, Nat.reduceAdd]
                  refine LexS.read (.tuple #[stepV bb dd, .bool ok]) rfl ?_ ?_
                  · intro s hs
                    simp only [List.mem_cons, List.not_mem_nil, or_false] at hs
                    rcases hs with rfl | rfl <;> simp [execOp, go_sem, l0, l1]
                  simp only [Go.Act.put, List.setIfInBounds_toArray, List.set_cons_succ, List.set_cons_zero, Nat.zero_add, Nat.reduceAdd]
                  refine LexS.read (.tuple #[stepV bb dd, .bool ok]) rfl ?_ ?_
                  · intro s hs
                    simp only [List.mem_cons, List.not_mem_nil, or_false] at hs
                    rcases hs with rfl | rfl <;> simp [execOp, go_sem]
                  simp only [Go.Act.put, List.setIfInBounds_toArray, List.set_cons_succ, List.set_cons_zero, Nat.zero_add, Nat.reduceAdd]
                  refine LexS.read (stepV bb dd) rfl ?_ ?_
                  · intro s hs
                    simp only [List.mem_cons, List.not_mem_nil, or_false] at hs
                    rcases hs with rfl | rfl <;> simp [execOp, go_sem]
                  simp only [Go.Act.put, List.setIfInBounds_toArray, List.set_cons_succ, List.set_cons_zero, Nat.zero_add, Nat.reduceAdd]
                  refine LexS.read (.bool ok) rfl ?_ ?_
                  · intro s hs
                    simp only [List.mem_cons, List.not_mem_nil, or_false] at hs
                    rcases hs with rfl | rfl | rfl <;> simp [execOp, go_sem]
                  simp only [Go.Act.put, List.setIfInBounds_toArray, List.set_cons_succ, List.set_cons_zero, Nat.zero_add, Nat.reduceAdd]
                  refine LexS.write (.pointer (some ⟨W6.heap.size, 0, none⟩)) 0 rfl ?_ ?_
                  · simp [execOp, go_sem, Z107]
                  simp only [Go.Act.put, List.setIfInBounds_toArray, List.set_cons_succ, List.set_cons_zero, Nat.zero_add, Nat.reduceAdd]
                  refine LexS.store 1 rfl ?_ ?_
                  · simp [execOp, go_sem, Z107, stepV, stepA]
                  simp only [Go.Act.put, List.setIfInBounds_toArray, List.set_cons_succ, List.set_cons_zero, Nat.zero_add, Nat.reduceAdd]
                  refine LexS.read (.bool ok) rfl ?_ ?_
                  · intro s hs
                    simp only [List.mem_cons, List.not_mem_nil, or_false] at hs
                    subst hs
                    simp [execOp, go_sem]
                  simp only [Go.Act.put, List.setIfInBounds_toArray, List.set_cons_succ, List.set_cons_zero, Nat.zero_add, Nat.reduceAdd]
                  refine LexS.done ?_
                  simp only [List.length_cons, List.length_nil, Nat.reduceAdd, Nat.zero_add]
                  obtain ⟨W7, hW7⟩ : ∃ W7, W7 = W6.drew.alloc (.cells (stepA bb dd) 107) := ⟨_, rfl⟩
                  have HB7 : Hid (Below W6.heap.size W6 W7) := by rw [hW7]; exact (drewN_below0 W6).trans ((Below.refl _ W6.drew).alloc (Nat.le_refl _) _)
                  have h7d : W7.cell? ⟨W6.heap.size, 9, none⟩ = some (.int .i64 (dd : Int)) := by rw [hW7]; exact World.cell?_alloc_new _ _ _ _
                  rw [← hW7]
                  clear hW7 l0 l1 n0 n1' n2' n3 n4 n5 n6 n7 n8 t0 t1 t2 t3 t4 t5 t6 t7 t8 hcg hcg'
                  have HG7 : Hid (w5.grownBy W7 (some W2.heap.size)) := grownBy_trans_to (grownBy_trans_to HGw.out (Below.grow0 HB6.out) (fun j e => by cases e)) (Below.grow0 HB7.out) (fun j e => by cases e)
                  have HM7 : Hid (PosBox W7 W2.heap.size zM) := HM6.out.below HB7.out
                  have HP7 : Hid (PosBox W7 wr.heap.size z) := HP6.out.below HB7.out
                  have hq6 : ¬ W6.heap.size = W2.heap.size := by have := HGw.out.size; have := HK5.out.size; have h9 : wo.heap.size ≤ w5.heap.size := HK5.out.size; omega
                  have hq6' : ¬ W2.heap.size = W6.heap.size := fun e => hq6 e.symm
                  rcases HOK2.out with ⟨hok3, hk3⟩ | ⟨hok3, hk3⟩
                  · obtain ⟨kq, hkq, hdd⟩ := hk3
                    have hkq2 := (lookK_mem hN.2 HKo.out.pos HKo.out.kn HZP.out).2 kq hkq
                    have hmeet := meet_at HKw.out HKo.out HApp.out HZD.out hkq2.1 hkq2.2
                    have hdo : dd = Do := hdd.trans hmeet.1
                    subst hdo
                    subst hok3
                    have HKQ := Hid.intro hkq
                    clear HOK2 hkq hkq2 hmeet hdd
                    cases fb with
                    | false =>
                      have hm0 := HM7.out.cell
                      have hf0 := HM7.out.frozen
                      have hq0 := HP7.out.cell
                      have x0 := hm0 0 (by omega)
                      have y0 := hf0 0
                      have z0' := hq0 0 (by omega)
                      have x1 := hm0 1 (by omega)
                      have y1 := hf0 1
                      have z1' := hq0 1 (by omega)
                      have x2 := hm0 2 (by omega)
                      have y2 := hf0 2
                      have z2' := hq0 2 (by omega)
                      have x3 := hm0 3 (by omega)
                      have y3 := hf0 3
                      have z3' := hq0 3 (by omega)
                      have x4 := hm0 4 (by omega)
                      have y4 := hf0 4
                      have z4' := hq0 4 (by omega)
                      have x5 := hm0 5 (by omega)
                      have y5 := hf0 5
                      have z5' := hq0 5 (by omega)
                      have x6 := hm0 6 (by omega)
                      have y6 := hf0 6
                      have z6' := hq0 6 (by omega)
                      have x7 := hm0 7 (by omega)
                      have y7 := hf0 7
                      have z7' := hq0 7 (by omega)
                      have x8 := hm0 8 (by omega)
                      have y8 := hf0 8
                      have z8' := hq0 8 (by omega)
                      clear hm0 hf0 hq0
                      gi_wp2
                      refine wpIn_region_lexS (ro := none) [3] [[0], [0, 1], [0, 1], [0, 1], [1], [1]] (fun s => match s with | 0 => W7.drew | _ => (((((((((W7.drew.setCell ⟨W2.heap.size, 0, none⟩ (.int .i8 (z 0))).setCell ⟨W2.heap.size, 1, none⟩ (.int .i8 (z 1))).setCell ⟨W2.heap.size, 2, none⟩ (.int .i8 (z 2))).setCell ⟨W2.heap.size, 3, none⟩ (.int .i8 (z 3))).setCell ⟨W2.heap.size, 4, none⟩ (.int .i8 (z 4))).setCell ⟨W2.heap.size, 5, none⟩ (.int .i8 (z 5))).setCell ⟨W2.heap.size, 6, none⟩ (.int .i8 (z 6))).setCell ⟨W2.heap.size, 7, none⟩ (.int .i8 (z 7))).setCell ⟨W2.heap.size, 8, none⟩ (.int .i8 (z 8)))) follows 98 rfl (by kernel_rfl) rfl ?_
                      refine LexS.read (.agg (pos9 z)) rfl ?_ ?_
                      · intro s hs
                        simp only [List.mem_cons, List.not_mem_nil, or_false] at hs
                        subst hs
                        simp [execOp, go_sem, z0', z1', z2', z3', z4', z5', z6', z7', z8', pos9]
                      simp only [Go.Act.put, List.setIfInBounds_toArray, List.set_cons_succ, List.set_cons_zero, Nat.zero_add, Nat.reduceAdd]
                      refine LexS.read (.pointer (some ⟨W6.heap.size, 9, none⟩)) rfl ?_ ?_
                      · intro s hs
                        simp only [List.mem_cons, List.not_mem_nil, or_false] at hs
                        rcases hs with rfl | rfl <;> simp [execOp, go_sem]
                      simp only [Go.Act.put, List.setIfInBounds_toArray, List.set_cons_succ, List.set_cons_zero, Nat.zero_add, Nat.reduceAdd]
                      refine LexS.read (.int .i64 (dd : Int)) rfl ?_ ?_
                      · intro s hs
                        simp only [List.mem_cons, List.not_mem_nil, or_false] at hs
                        rcases hs with rfl | rfl <;> simp [execOp, go_sem, h7d, hq6, hq6']
                      simp only [Go.Act.put, List.setIfInBounds_toArray, List.set_cons_succ, List.set_cons_zero, Nat.zero_add, Nat.reduceAdd]
                      refine LexS.store 0 rfl ?_ ?_
                      · simp [execOp, go_sem, pos9, x0, x1, x2, x3, x4, x5, x6, x7, x8, y0, y1, y2, y3, y4, y5, y6, y7, y8]
                      simp only [Go.Act.put, List.setIfInBounds_toArray, List.set_cons_succ, List.set_cons_zero, Nat.zero_add, Nat.reduceAdd]
                      refine LexS.read (.int .i64 (dd : Int)) rfl ?_ ?_
                      · intro s hs
                        simp only [List.mem_cons, List.not_mem_nil, or_false] at hs
                        subst hs
                        simp [execOp, go_sem]
                      simp only [Go.Act.put, List.setIfInBounds_toArray, List.set_cons_succ, List.set_cons_zero, Nat.zero_add, Nat.reduceAdd]
                      refine LexS.read (.bool true) rfl ?_ ?_
                      · intro s hs
                        simp only [List.mem_cons, List.not_mem_nil, or_false] at hs
                        subst hs
                        simp [execOp, go_sem]
                      simp only [Go.Act.put, List.setIfInBounds_toArray, List.set_cons_succ, List.set_cons_zero, Nat.zero_add, Nat.reduceAdd]
                      refine LexS.done ?_
                      simp only [List.length_cons, List.length_nil, Nat.reduceAdd, Nat.zero_add]
                      obtain ⟨we, hwe⟩ : ∃ we, we = (((((((((W7.drew.setCell ⟨W2.heap.size, 0, none⟩ (.int .i8 (z 0))).setCell ⟨W2.heap.size, 1, none⟩ (.int .i8 (z 1))).setCell ⟨W2.heap.size, 2, none⟩ (.int .i8 (z 2))).setCell ⟨W2.heap.size, 3, none⟩ (.int .i8 (z 3))).setCell ⟨W2.heap.size, 4, none⟩ (.int .i8 (z 4))).setCell ⟨W2.heap.size, 5, none⟩ (.int .i8 (z 5))).setCell ⟨W2.heap.size, 6, none⟩ (.int .i8 (z 6))).setCell ⟨W2.heap.size, 7, none⟩ (.int .i8 (z 7))).setCell ⟨W2.heap.size, 8, none⟩ (.int .i8 (z 8))) := ⟨_, rfl⟩
                      rw [← hwe]
                      have HPE : Hid (PosBox we W2.heap.size z) := by rw [hwe]; exact pos_set (W := W7.drew) (z := zM) (z' := z) HM7.out
                      have HGE : Hid (W7.grownBy we (some W2.heap.size)) := by
                        rw [hwe]
                        exact grown_set (grown_set (grown_set (grown_set (grown_set (grown_set (grown_set (grown_set (grown_set (grown_drew W7 W2.heap.size) 0 _) 1 _) 2 _) 3 _) 4 _) 5 _) 6 _) 7 _) 8 _
                      clear hwe x0 y0 z0' x1 y1 z1' x2 y2 z2' x3 y3 z3' x4 y4 z4' x5 y5 z5' x6 y6 z6' x7 y7 z7' x8 y8 z8' h7d
                      gi_wp2
                      exact ⟨⟨k + 1, true, by omega, by go_num, rfl, rfl, Hid.intro (fun h => by cases h), Hid.intro (fun _ => ⟨z, HPE.out, hzm, kq, HKQ.out⟩), grownBy_trans_to HG7.out HGE.out (fun j e => .inl (by injection e with e; exact e.symm)), Hid.intro ⟨z, HPE.out⟩⟩, by simp [intOf]; omega⟩
                    | true =>
                      rw [hs6] at h7d
                      gi_wp2
                      obtain ⟨x1, hx1, hx2, hx3⟩ := (by first | exact HF1.out rfl | exact HF1.out trivial : ∃ x, PosBox wr W2.heap.size x ∧ x ∈ ns.map (·.at_) ∧ ∃ ko, lookK eo x = some ko)
                      exact ⟨⟨k + 1, true, by omega, by go_num, rfl, rfl, Hid.intro (fun h => by cases h), Hid.intro (fun _ => ⟨x1, (hx1.below HB6.out).below HB7.out, hx2, hx3⟩), HG7, Hid.intro ⟨_, HM7.out⟩⟩, by simp [intOf]; omega⟩
                  · subst hok3
                    have HK3 := Hid.intro hk3
                    clear HOK2 hk3
                    gi_wp2
                    refine ⟨⟨k + 1, fb, by omega, by go_num, rfl, rfl, Hid.intro (fun hf j z' hj hz' => ?_), Hid.intro (fun hf => ?_), HG7, Hid.intro ⟨_, HM7.out⟩⟩, by simp [intOf]; omega⟩
                    · by_cases hjk : j = k
                      · subst hjk
                        rw [HZ.out] at hz'
                        cases hz'
                        exact HK3.out
                      · exact HF0.out hf j z' (by omega) hz'
                    · obtain ⟨x1, hx1, hx2, hx3⟩ := HF1.out hf
                      exact ⟨x1, (hx1.below HB6.out).below HB7.out, hx2, hx3⟩
                · have hkl : k = ns.length := by omega
                  subst hkl
                  have HLow : Hid (Below (w.heap.size + 3) W1 wr) := HL5.out.trans ((Below.refl (w.heap.size + 3) w5).grown HGw.out (by have := HL5.out.size; omega) (fun j e => by cases e; omega))
                  have HAll := HO5.out.kn
                  have hPs := HO5.out.pos
                  have hnl2 := (HO5.out.count hN.2).1
                  rw [List.length_append] at hnl2
                  have hor : ∀ e : Value, e.ownBlock ≠ some W2.heap.size → e.ownBlock ≠ some W2.heap.size := fun _ h => h
                  have hcnt := HF.out trivial
                  cases fb with
                  | false =>
                    have HApn : Hid (Apart (ew ++ ns) eo) := apart_grow HApp.out (fun z hz => by
                      obtain ⟨j, hj, e⟩ := List.getElem_of_mem hz
                      rw [List.length_map] at hj
                      have hl := HF0.out rfl j z hj (by rw [List.getElem?_eq_getElem (by rw [List.length_map]; exact hj), e])
                      have hzp : Pos N z := ((HO5.out.wave.lm z).1 hz).1.pos hPs
                      exact (lookK_mem hN.2 HKo.out.pos HKo.out.kn hzp).1.1 hl)
                    gi_wp2
                    have hnn : ns.map (·.at_) ≠ [] := fun e => by rw [List.map_eq_nil_iff] at e; subst e; simp at hnpos
                    have hms : 1000000 - (mapSize wr mw + mapSize wr mo) < 1000000 - (mapSize wo mw + mapSize wo mo) := by
                      rw [mapSize_eq HW6.out.map, mapSize_eq HWo6.out.map, mapSize_eq HWw.out.map, mapSize_eq HWo.out.map, List.length_append]
                      omega
                    first
                      | exact ⟨⟨Dw + 1, Do, ew ++ ns, eo, ns.map (·.at_), L2, false, rfl, ⟨⟨_, HW6.out, fun e => HR5'.out _ e rfl⟩, ⟨_, HWo6.out, hno⟩, HO5.out, HKo.out, hneg, ⟨_, hzM, hMB⟩, HLow.out⟩, Hid.intro (fun _ => ⟨HApn.out, hnn, hcnt.2.2.1, by rw [List.length_append]; omega, hcnt.2.2.2.2⟩), Hid.intro (fun h => by cases h)⟩, hms⟩
                      | exact ⟨⟨Do, Dw + 1, eo, ew ++ ns, L1, ns.map (·.at_), false, rfl, ⟨⟨_, HWo6.out, hno⟩, ⟨_, HW6.out, fun e => HR5'.out _ e rfl⟩, HKo.out, HO5.out, ⟨fun e => hneg.1 e.symm, fun e => hneg.2 e.symm⟩, ⟨_, hzM, hMB⟩, HLow.out⟩, Hid.intro (fun _ => ⟨HApn.out.symm, hcnt.2.1, hnn, hcnt.2.2.2.1, by rw [List.length_append]; omega⟩), Hid.intro (fun h => by cases h)⟩, by rw [Nat.add_comm (mapSize wr mo), Nat.add_comm (mapSize wo mo)]; exact hms⟩
                  | true =>
                    gi_wp2
                    obtain ⟨x1, hx1, hx2, ko, hko⟩ := (by first | exact HF1.out rfl | exact HF1.out trivial : ∃ x, PosBox wr W2.heap.size x ∧ x ∈ ns.map (·.at_) ∧ ∃ ko, lookK eo x = some ko)
                    have hxd := (HO5.out.wave.lm x1).1 hx2
                    have hxp : Pos N x1 := hxd.1.pos hPs
                    have hko2 := (lookK_mem hN.2 HKo.out.pos HKo.out.kn hxp).2 ko hko
                    have hmeet := meet_at HKw.out HKo.out HApp.out hxd hko2.1 hko2.2
                    obtain ⟨kw, hkw⟩ : ∃ kw, lookK (ew ++ ns) x1 = some kw := by
                      cases hl : lookK (ew ++ ns) x1 with
                      | some kw => exact ⟨kw, rfl⟩
                      | none =>
                        have := (lookK_mem hN.2 hPs HAll hxp).1.1 hl
                        rw [List.map_append, List.mem_append, not_or] at this
                        exact absurd hx2 this.2
                    have hkw2 := (lookK_mem hN.2 hPs HAll hxp).2 kw hkw
                    have hkwd := (HAll kw hkw2.1).1
                    rw [hkw2.2] at hkwd
                    have hkd := hkwd.unique hxd
                    have hms : 0 < 1000000 - (mapSize wo mw + mapSize wo mo) := by
                      rw [mapSize_eq HWw.out.map, mapSize_eq HWo.out.map]
                      omega
                    first
                      | exact ⟨⟨Dw + 1, Do, ew ++ ns, eo, ns.map (·.at_), L2, true, rfl, ⟨⟨_, HW6.out, fun e => HR5'.out _ e rfl⟩, ⟨_, HWo6.out, hno⟩, HO5.out, HKo.out, hneg, ⟨_, hzM, hMB⟩, HLow.out⟩, Hid.intro (fun h => by cases h), Hid.intro (fun _ => ⟨x1, kw, ko, hx1, hxp, hkw, hko, by rw [hkd, hmeet.1]; exact hmeet.2⟩)⟩, hms⟩
                      | exact ⟨⟨Do, Dw + 1, eo, ew ++ ns, L1, ns.map (·.at_), true, rfl, ⟨⟨_, HWo6.out, hno⟩, ⟨_, HW6.out, fun e => HR5'.out _ e rfl⟩, HKo.out, HO5.out, ⟨fun e => hneg.1 e.symm, fun e => hneg.2 e.symm⟩, ⟨_, hzM, hMB⟩, HLow.out⟩, Hid.intro (fun h => by cases h), Hid.intro (fun _ => ⟨x1, ko, kw, hx1, hxp, hko, hkw, by rw [hkd, hmeet.1, Nat.add_comm]; exact hmeet.2.symm (fun a b => Mov.symm)⟩)⟩, by rw [Nat.add_comm (mapSize wo mo)]; exact hms⟩
end Go.Eng
