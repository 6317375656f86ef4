/-
  What 'order' of the law's package makes: a position.
  Conditions: the list's cells are known.
-/
import Derived.Test.YtjcmalmcijpnnaaDoorChkW
import Derived.Test.YtjcmalmcijpnnaaDoorChkS
namespace Go.Eng
open Go.RowKit Go.Proofs Go.Proofs.YtjcmalmcijpnnaaDoor

/-- A row of numbers of the call's own. -/
def NumsAt (w : World) (base : Nat) (v : Value) (zs : List Int) : Prop := w.ownsRow base 3 1 v zs.length (zs.map (Value.int .i64))
theorem NumsAt.ints {w : World} {base : Nat} {v : Value} {zs : List Int} (h : NumsAt w base v zs) : IntsAt w v zs := by
  have h' : w.ownsRow base 3 1 v zs.length (zs.map (Value.int .i64)) := h
  rcases h'.2 with ⟨rfl, hn⟩ | ⟨g, cap, cur, rfl, h1, h2, h3, h4, h5, h6⟩
  · have : zs = [] := List.length_eq_zero_iff.1 hn
    subst this
    exact .inl ⟨rfl, rfl⟩
  · refine .inr ⟨⟨g, 0, none⟩, cap, rfl, h3, by unfold maxLen at h4; omega, fun _ => (h'.lt g rfl).2, fun i hi => ?_⟩
    refine h'.cells (g := g) rfl i _ ?_
    rw [List.getElem?_map, List.getD_eq_getElem?_getD, List.getElem?_eq_getElem hi]; rfl
theorem num_new (w : World) (i : Int) (t : TypeId) : ∀ k u, [Value.int .i64 i][k]? = some u → (w.alloc (.cells #[.int .i64 i] t)).cell? ((⟨w.heap.size, 0, none⟩ : Addr).add k) = some u := by
  intro k u h
  rw [Addr.add_lit, Nat.zero_add, World.cell?_alloc_new]
  match k, h with
  | 0, h => exact h
theorem nums_one (zs : List Int) : ∀ u ∈ zs.map (Value.int .i64), u.oneCell' = true := by
  intro u hu
  obtain ⟨z, _, rfl⟩ := List.mem_map.1 hu
  rfl

theorem seg_cells {w : World} {b : Addr} {zs : List Int} {k A m : Nat} (h : ∀ i, i < k → w.cell? (b.add i) = some (.int .i64 (zs.getD i 0))) (hl : zs.length = k) (hm : A + m ≤ k) :
    ∀ j u, (((zs.drop A).take m).map (Value.int .i64))[j]? = some u → w.cell? ((b.add A).add j) = some u := by
  intro j u hu
  rw [List.getElem?_map, Option.map_eq_some_iff] at hu
  obtain ⟨z, hz, rfl⟩ := hu
  rw [List.getElem?_take] at hz
  split at hz
  · rw [List.getElem?_drop] at hz
    have e : (b.add A).add j = b.add (A + j) := by
      unfold Addr.add
      by_cases hi : A = 0 <;> by_cases hj : j = 0 <;> simp [hi, hj, Nat.add_assoc]
    rw [e, h (A + j) (by omega), List.getD_eq_getElem?_getD, hz]; rfl
  · cases hz

theorem seg_cells0 {w : World} {b : Addr} {zs : List Int} {k m : Nat} (h : ∀ i, i < k → w.cell? (b.add i) = some (.int .i64 (zs.getD i 0))) (hl : zs.length = k) (hm : m ≤ k) :
    ∀ j u, ((zs.take m).map (Value.int .i64))[j]? = some u → w.cell? (b.add j) = some u := by
  have h0 : b.add 0 = b := by unfold Addr.add; simp
  have := seg_cells (A := 0) (m := m) h hl (by omega)
  rw [h0] at this
  exact this

theorem seg_cells_b {w : World} {b : Addr} {zs : List Int} {k : Nat} (h : ∀ i, i < k → w.cell? (b.add i) = some (.int .i64 (zs.getD i 0))) (hl : zs.length = k) :
    ∀ j u, (((zs.drop 0).take (k - 0)).map (Value.int .i64))[j]? = some u → w.cell? (b.add j) = some u := by
  have h0 : b.add 0 = b := by unfold Addr.add; simp
  have := seg_cells (A := 0) (m := k - 0) h hl (by omega)
  rw [h0] at this
  exact this
theorem append_none_run (w : World) (g n cap : Nat) (hc : n ≤ cap) : (Builtin.append_ #[38, 38] 38 #[.slice (some ⟨g, 0, none⟩) n cap, .slice none 0 0]).run Tryd.prog w = .ok (.slice (some ⟨g, 0, none⟩) n cap) w := by
  have hu := Go.Eng.u38
  have hi := t3_info
  have hn : ¬ cap < n := by omega
  simp [Builtin.append_, run_underlying hu, sizeOf, typeInfo, hi, Builtin.lenOf, Builtin.firstCells, go_sem, hn]

/-- A position of the first k numbers. -/
structure Ord (k : Nat) (zs : List Int) : Prop where
  len : zs.length = k
  range : ∀ x ∈ zs, 0 ≤ x ∧ x < k
  apart : zs.Nodup
theorem Ord.next {k : Nat} {zs : List Int} (h : Ord k zs) (A : Nat) : Ord (k + 1) (zs.take A ++ ([(k : Int)] ++ zs.drop A)) := by
  have hp : (zs.take A ++ ([(k : Int)] ++ zs.drop A)).Perm ((k : Int) :: zs) := by
    have := @List.perm_middle _ (k : Int) (zs.take A) (zs.drop A)
    simpa [List.take_append_drop] using this
  refine ⟨by rw [hp.length_eq]; simp [h.len], fun x hx => ?_, hp.nodup_iff.2 ?_⟩
  · rcases List.mem_cons.1 (hp.mem_iff.1 hx) with rfl | hx
    · omega
    · have := h.range x hx; omega
  · rw [List.nodup_cons]
    exact ⟨fun hk => by have := h.range _ hk; omega, h.apart⟩
theorem Ord.isPos {N : Nat} {zs : List Int} (h : Ord N zs) (hN : 2 ≤ N ∧ N ≤ 9) : IsPos (N : Int) zs :=
  ⟨by omega, by rw [h.len], h.range, h.apart⟩

set_option maxRecDepth 100000 in
set_option maxHeartbeats 8000000 in
theorem order_walk (w : World) (N : Nat) (hN : 2 ≤ N ∧ N ≤ 9) (v : Value) (ls : List Int) (hv : IntsAt w v ls) :
    CallsIn Fence.wide 0 Tryd.prog 20 #[.int .i64 (N : Int), v] w fun e w' => ∃ (v' : Value) (zs : List Int), e = .returned v' ∧ IntsAt w' v' zs ∧ IsPos (N : Int) zs ∧ Below w.heap.size w w' := by
  obtain ⟨o, cap, rfl, HV⟩ : ∃ o cap, v = .slice o ls.length cap ∧ Hid (0 < ls.length → ∃ a : Addr, o = some a ∧ a.block < w.heap.size ∧ ∀ i, i < ls.length → w.cell? (a.add i) = some (.int .i64 (ls.getD i 0))) := by
    rcases hv with ⟨rfl, rfl⟩ | ⟨a, cap, rfl, hcap, hl2, ha, hc⟩
    · exact ⟨none, 0, rfl, fun h => by simp at h⟩
    · exact ⟨some a, cap, rfl, fun h0 => ⟨a, rfl, ha h0, hc⟩⟩
  have HL : ls.length ≤ 9223372036854775807 := by
    rcases hv with ⟨_, rfl⟩ | ⟨_, _, _, _, h, _⟩
    · simp
    · exact h
  clear hv
  refine callsIn_of_wp Tryd.func20 rfl trivial ?_ rfl
  simp only [Tryd.ntmps20, List.size_toArray, List.length_cons, List.length_nil, Nat.reduceAdd, Nat.reduceSub, Array.replicate_succ, Array.replicate_zero, List.push_toArray, List.append_toArray, List.nil_append, List.cons_append]
  gi_wp2
  gi_loopw [5, 6] (fun out x wr => ∃ (k : Nat) (zs : List Int), k ≤ N ∧ x = .int .i64 (k : Int) ∧ Hid (Below w.heap.size w wr) ∧ Hid (IntsAt wr out zs) ∧ Hid (Ord k zs) ∧ Hid (k = 0 → out = .slice none 0 0)) (fun _ x _ => N - (intOf x).toNat)
  case atStart => exact ⟨0, [], by omega, rfl, Below.refl _ _, .inl ⟨rfl, rfl⟩, ⟨rfl, by simp, by simp⟩, fun _ => rfl⟩
  case round =>
    obtain ⟨k, zs, hk, rfl, HB, HI, HO, HZ⟩ := hrel
    by_cases hkN : k < N
    · by_cases hk0 : k = 0
      · subst hk0
        have hz0 : zs = [] := List.length_eq_zero_iff.1 HO.out.len
        subst hz0
        have hu5 : u5 = .slice none 0 0 := HZ.out rfl
        subst hu5
        have hrun1 := empty_run wr none 0
        by_cases hl : 0 < ls.length
        · obtain ⟨a, rfl, ha, hc⟩ := HV.out hl
          have g0 := (HB.out.cell (p := a.add 0) (by rw [add_block]; exact ha)).trans (hc 0 hl)
          have h0 : a.add 0 = a := by unfold Addr.add; simp
          rw [h0] at g0
          obtain ⟨A, hA, hAe⟩ := below_of (ls.getD 0 0) 1 (by omega) (by omega)
          have hA0 : A = 0 := by omega
          subst hA0
          obtain ⟨x, hx⟩ : ∃ x, ls.getD 0 0 = x := ⟨_, rfl⟩
          rw [hx] at g0 hAe
          clear hc hx
          gi_wp2_with (gi_at_builtin; refine stop ?_)
          unfold Stop
          refine wpListIn_append_run _ rfl _ _ _ rfl rfl rfl hrun1 ?_
          gi_wp2_with (gi_at_builtin; refine stop ?_)
          unfold Stop
          refine wpListIn_append_own _ rfl _ _ 38 rfl wr.heap.size 3 Tryd.t3 _ 1 8 Go.Eng.u38 t3_info t3_zero t3_size t3_bytes rfl (by decide) _ 0 [] rfl (World.ownsRow_nil _ _ _ _) ⟨wr.heap.size, 0, none⟩ 1 1 [.int .i64 0] rfl rfl (num_new _ _ _) (fun u hu => by simp at hu; subst hu; rfl) (by unfold maxLen; simp) (by simp) (by simp) ?_
          intro v2 w2 hown2 hgrow2 _
          have HN2 : NumsAt w2 wr.heap.size v2 [0] := hown2
          have HB2 : Hid (Below wr.heap.size wr w2) := ((Below.refl _ wr).alloc (Nat.le_refl _) _).grown hgrow2 (by simp) (fun k' h => by cases h)
          obtain ⟨g, cap2, rfl, hcap2⟩ : ∃ g cap2, v2 = .slice (some ⟨g, 0, none⟩) 1 cap2 ∧ 1 ≤ cap2 := by
            rcases hown2.2 with ⟨_, h⟩ | ⟨g, cap2, _, h, _, _, h3, _⟩
            · cases h
            · exact ⟨g, cap2, h, h3⟩
          have hrun3 := append_none_run w2 g 1 cap2 hcap2
          clear hown2 hgrow2 hrun1
          gi_wp2_with (gi_at_builtin; refine stop ?_)
          unfold Stop
          refine wpListIn_append_run _ rfl _ _ _ rfl rfl rfl hrun3 ?_
          gi_wp2
          exact ⟨⟨1, [0], by omega, rfl, HB.out.trans (HB2.out.mono HB.out.size), HN2.ints, HO.out.next 0, fun h => by cases h⟩, by simp [intOf]; omega⟩
        · gi_wp2_with (gi_at_builtin; refine stop ?_)
          unfold Stop
          refine wpListIn_append_run _ rfl _ _ _ rfl rfl rfl hrun1 ?_
          gi_wp2_with (gi_at_builtin; refine stop ?_)
          unfold Stop
          refine wpListIn_append_own _ rfl _ _ 38 rfl wr.heap.size 3 Tryd.t3 _ 1 8 Go.Eng.u38 t3_info t3_zero t3_size t3_bytes rfl (by decide) _ 0 [] rfl (World.ownsRow_nil _ _ _ _) ⟨wr.heap.size, 0, none⟩ 1 1 [.int .i64 0] rfl rfl (num_new _ _ _) (fun u hu => by simp at hu; subst hu; rfl) (by unfold maxLen; simp) (by simp) (by simp) ?_
          intro v2 w2 hown2 hgrow2 _
          have HN2 : NumsAt w2 wr.heap.size v2 [0] := hown2
          have HB2 : Hid (Below wr.heap.size wr w2) := ((Below.refl _ wr).alloc (Nat.le_refl _) _).grown hgrow2 (by simp) (fun k' h => by cases h)
          obtain ⟨g, cap2, rfl, hcap2⟩ : ∃ g cap2, v2 = .slice (some ⟨g, 0, none⟩) 1 cap2 ∧ 1 ≤ cap2 := by
            rcases hown2.2 with ⟨_, h⟩ | ⟨g, cap2, _, h, _, _, h3, _⟩
            · cases h
            · exact ⟨g, cap2, h, h3⟩
          have hrun3 := append_none_run w2 g 1 cap2 hcap2
          clear hown2 hgrow2 hrun1
          gi_wp2_with (gi_at_builtin; refine stop ?_)
          unfold Stop
          refine wpListIn_append_run _ rfl _ _ _ rfl rfl rfl hrun3 ?_
          gi_wp2
          exact ⟨⟨1, [0], by omega, rfl, HB.out.trans (HB2.out.mono HB.out.size), HN2.ints, HO.out.next 0, fun h => by cases h⟩, by simp [intOf]; omega⟩
      · have hzl : zs.length = k := HO.out.len
        obtain ⟨b, cap3, rfl, hcap3, hbl, hbc⟩ : ∃ b cap3, u5 = .slice (some b) k cap3 ∧ k ≤ cap3 ∧ b.block < wr.heap.size ∧ ∀ i, i < k → wr.cell? (b.add i) = some (.int .i64 (zs.getD i 0)) := by
          rcases HI.out with ⟨rfl, rfl⟩ | ⟨b, cap3, rfl, h1, h2, h3, h4⟩
          · simp at hzl; omega
          · rw [hzl] at h1 h3 h4 ⊢
            exact ⟨b, cap3, rfl, h1, h3 (by omega), h4⟩
        have HBC := Hid.intro hbc
        have HZL := Hid.intro hzl
        clear hbc hzl
        by_cases hl : k < ls.length
        · obtain ⟨a, rfl, ha, hc⟩ := HV.out (by omega)
          have g0 := (HB.out.cell (p := a.add k) (by rw [add_block]; exact ha)).trans (hc k hl)
          obtain ⟨A, hA, hAe⟩ := below_of (ls.getD k 0) (k + 1) (by omega) (by omega)
          rw [show ((k + 1 : Nat) : Int) = (k : Int) + 1 by omega] at hAe
          obtain ⟨x, hx⟩ : ∃ x, ls.getD k 0 = x := ⟨_, rfl⟩
          rw [hx] at g0 hAe
          clear hc hx
          have hA9 : A ≤ k := by omega
          gi_wp2_with (gi_at_builtin; refine stop ?_)
          unfold Stop
          refine wpListIn_append_own _ rfl _ _ 38 rfl wr.heap.size 3 Tryd.t3 _ 1 8 Go.Eng.u38 t3_info t3_zero t3_size t3_bytes rfl (by decide) _ 0 [] rfl (World.ownsRow_nil _ _ _ _) b A cap3 ((zs.take A).map (Value.int .i64)) rfl (by have := HZL.out; simp <;> omega) (seg_cells0 HBC.out HZL.out hA9) (nums_one _) (by unfold maxLen; omega) (by omega) (Nat.le_refl _) ?_
          intro v1 w1 hown1 hgrow1 _
          have HN1 : NumsAt w1 wr.heap.size v1 (zs.take A) := by
            have e : (zs.take A).length = A := by rw [List.length_take, HZL.out]; omega
            unfold NumsAt
            rw [e]
            simpa using hown1
          have HB1 : Hid (Below wr.heap.size wr w1) := (Below.refl _ wr).grown hgrow1 (Nat.le_refl _) (fun _ h => by cases h)
          clear hown1 hgrow1
          gi_wp2_with (gi_at_builtin; refine stop ?_)
          unfold Stop
          have hz1 := HB1.out.size
          refine wpListIn_append_own _ rfl _ _ 38 rfl wr.heap.size 3 Tryd.t3 _ 1 8 Go.Eng.u38 t3_info t3_zero t3_size t3_bytes rfl (by decide) _ _ _ rfl (World.ownsRow.alloc HN1 _) ⟨w1.heap.size, 0, none⟩ 1 1 [.int .i64 (k : Int)] rfl rfl (num_new _ _ _) (fun u hu => by simp at hu; subst hu; rfl) (by unfold maxLen; simp <;> omega) (by simp <;> omega) (by simp <;> omega) ?_
          intro v2 w2 hown2 hgrow2 _
          have HN2 : NumsAt w2 wr.heap.size v2 (zs.take A ++ [(k : Int)]) := by
            unfold NumsAt
            rw [List.length_append, List.map_append]
            exact hown2
          have HB2 : Hid (Below wr.heap.size wr w2) := (HB1.out.alloc hz1 _).grown hgrow2 (by simp <;> omega) (fun k' h => by have := (World.ownsRow.lt HN1) k' h; omega)
          clear hown2 hgrow2 hz1
          have hbc2 : ∀ i, i < k → w2.cell? (b.add i) = some (.int .i64 (zs.getD i 0)) := fun i hi => (HB2.out.cell (p := b.add i) (by rw [add_block]; exact hbl)).trans (HBC.out i hi)
          have HBC2 := Hid.intro hbc2
          have hz2 := HB2.out.size
          have hl2 : (zs.take A ++ [(k : Int)]).length = A + 1 := by have := HZL.out; simp <;> omega
          clear hbc2
          gi_wp2_with (gi_at_builtin; refine stop ?_)
          all_goals
            unfold Stop
            refine wpListIn_append_own _ rfl _ _ 38 rfl wr.heap.size 3 Tryd.t3 _ 1 8 Go.Eng.u38 t3_info t3_zero t3_size t3_bytes rfl (by decide) _ _ _ rfl HN2 _ (k - A) _ (((zs.drop A).take (k - A)).map (Value.int .i64)) rfl (by have := HZL.out; simp <;> omega) ?_ (nums_one _) (by unfold maxLen; omega) (by omega) hz2 ?_
          case' _ => skip
          all_goals first
            | exact seg_cells HBC2.out HZL.out (by omega)
            | (intro j u hu; exfalso; have e0 : k - A = 0 := by omega
               rw [e0] at hu; simp at hu; done)
            | skip
          all_goals
            intro v3 w3 hown3 hgrow3 _
            have HN3 : NumsAt w3 wr.heap.size v3 (zs.take A ++ ([(k : Int)] ++ zs.drop A)) := by
              have e1 : (zs.drop A).take (k - A) = zs.drop A := List.take_of_length_le (by have := HZL.out; simp <;> omega)
              rw [e1] at hown3
              unfold NumsAt
              rw [← List.append_assoc, List.length_append, List.map_append, List.length_drop, HZL.out]
              exact hown3
            have HB3 : Hid (Below wr.heap.size wr w3) := HB2.out.grown hgrow3 hz2 (fun k' h => by have := (World.ownsRow.lt HN2) k' h; omega)
            clear hown3 hgrow3
            gi_wp2
            exact ⟨⟨k + 1, _, by omega, by go_num, HB.out.trans (HB3.out.mono HB.out.size), HN3.ints, HO.out.next A, fun h => by omega⟩, by simp [intOf]; omega⟩
        · gi_wp2_with (gi_at_builtin; refine stop ?_)
          unfold Stop
          refine wpListIn_append_own _ rfl _ _ 38 rfl wr.heap.size 3 Tryd.t3 _ 1 8 Go.Eng.u38 t3_info t3_zero t3_size t3_bytes rfl (by decide) _ 0 [] rfl (World.ownsRow_nil _ _ _ _) b 0 cap3 ((zs.take 0).map (Value.int .i64)) rfl (by have := HZL.out; simp <;> omega) (seg_cells0 HBC.out HZL.out (Nat.zero_le _)) (nums_one _) (by unfold maxLen; omega) (by omega) (Nat.le_refl _) ?_
          intro v1 w1 hown1 hgrow1 _
          have HN1 : NumsAt w1 wr.heap.size v1 (zs.take 0) := by
            have e : (zs.take 0).length = 0 := by rw [List.length_take, HZL.out]; omega
            unfold NumsAt
            rw [e]
            simpa using hown1
          have HB1 : Hid (Below wr.heap.size wr w1) := (Below.refl _ wr).grown hgrow1 (Nat.le_refl _) (fun _ h => by cases h)
          clear hown1 hgrow1
          gi_wp2_with (gi_at_builtin; refine stop ?_)
          unfold Stop
          have hz1 := HB1.out.size
          refine wpListIn_append_own _ rfl _ _ 38 rfl wr.heap.size 3 Tryd.t3 _ 1 8 Go.Eng.u38 t3_info t3_zero t3_size t3_bytes rfl (by decide) _ _ _ rfl (World.ownsRow.alloc HN1 _) ⟨w1.heap.size, 0, none⟩ 1 1 [.int .i64 (k : Int)] rfl rfl (num_new _ _ _) (fun u hu => by simp at hu; subst hu; rfl) (by unfold maxLen; simp <;> omega) (by simp <;> omega) (by simp <;> omega) ?_
          intro v2 w2 hown2 hgrow2 _
          have HN2 : NumsAt w2 wr.heap.size v2 (zs.take 0 ++ [(k : Int)]) := by
            unfold NumsAt
            rw [List.length_append, List.map_append]
            exact hown2
          have HB2 : Hid (Below wr.heap.size wr w2) := (HB1.out.alloc hz1 _).grown hgrow2 (by simp <;> omega) (fun k' h => by have := (World.ownsRow.lt HN1) k' h; omega)
          clear hown2 hgrow2 hz1
          have hbc2 : ∀ i, i < k → w2.cell? (b.add i) = some (.int .i64 (zs.getD i 0)) := fun i hi => (HB2.out.cell (p := b.add i) (by rw [add_block]; exact hbl)).trans (HBC.out i hi)
          have HBC2 := Hid.intro hbc2
          have hz2 := HB2.out.size
          have hl2 : (zs.take 0 ++ [(k : Int)]).length = 0 + 1 := by have := HZL.out; simp <;> omega
          clear hbc2
          gi_wp2_with (gi_at_builtin; refine stop ?_)
          all_goals
            unfold Stop
            refine wpListIn_append_own _ rfl _ _ 38 rfl wr.heap.size 3 Tryd.t3 _ 1 8 Go.Eng.u38 t3_info t3_zero t3_size t3_bytes rfl (by decide) _ _ _ rfl HN2 _ k _ (((zs.drop 0).take (k - 0)).map (Value.int .i64)) rfl (by have := HZL.out; simp <;> omega) ?_ (nums_one _) (by unfold maxLen; omega) (by omega) hz2 ?_
          case' _ => skip
          all_goals first
            | exact seg_cells_b HBC2.out HZL.out
            | (intro j u hu; exfalso; have e0 : k - 0 = 0 := by omega
               rw [e0] at hu; simp at hu; done)
            | skip
          all_goals
            intro v3 w3 hown3 hgrow3 _
            have HN3 : NumsAt w3 wr.heap.size v3 (zs.take 0 ++ ([(k : Int)] ++ zs.drop 0)) := by
              have e1 : (zs.drop 0).take (k - 0) = zs.drop 0 := List.take_of_length_le (by have := HZL.out; simp <;> omega)
              rw [e1] at hown3
              unfold NumsAt
              rw [← List.append_assoc, List.length_append, List.map_append, List.length_drop, HZL.out]
              exact hown3
            have HB3 : Hid (Below wr.heap.size wr w3) := HB2.out.grown hgrow3 hz2 (fun k' h => by have := (World.ownsRow.lt HN2) k' h; omega)
            clear hown3 hgrow3
            gi_wp2
            exact ⟨⟨k + 1, _, by omega, by go_num, HB.out.trans (HB3.out.mono HB.out.size), HN3.ints, HO.out.next 0, fun h => by omega⟩, by simp [intOf]; omega⟩
    · have hkn : k = N := by omega
      subst hkn
      gi_wp2
      all_goals (first | go_returns | go_ret | go_end0)
      exact ⟨_, zs, rfl, HI.out, HO.out.isPos hN, HB.out⟩
end Go.Eng
