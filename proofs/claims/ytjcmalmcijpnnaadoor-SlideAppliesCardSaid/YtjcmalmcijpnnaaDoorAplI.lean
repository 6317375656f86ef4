/-
  The law SlideApplies.
  Conditions: none.
-/
import Derived.Test.YtjcmalmcijpnnaaDoorAplX
import Derived.Test.YtjcmalmcijpnnaaDoorChkX
import Derived.Test.YtjcmalmcijpnnaaDoorBrdH
namespace Go.Eng
open Go.RowKit Go.Proofs Go.Proofs.YtjcmalmcijpnnaaDoor

theorem NumsAt.below {w w' : World} {base : Nat} {v : Value} {zs : List Int} (h : NumsAt w base v zs) (hb : Below w.heap.size w w') : NumsAt w' base v zs :=
  World.ownsRow.kept h (row := none) ⟨hb.os, hb.tape, hb.output, hb.size, fun j hj _ => hb.block j hj⟩ (by cases h : v.ownBlock <;> simp)

set_option maxRecDepth 100000 in
set_option maxHeartbeats 16000000 in
/-- **The law SlideApplies.** -/
theorem applies_calls {w : World} (hw : TabsIn w) (n : Int) (v u t : Value) (ps : List (Int × Int)) (us ts : List Int) (hv : PairsAt w v ps) (hu : IntsAt w u us) (ht : IntsAt w t ts) :
    CallsIn Fence.wide 0 Tryd.prog 7 #[.int .i64 n, v, .agg #[u, t]] w fun e w' => e = .returned (.bool true) ∧ Below w.heap.size w w' := by
  obtain ⟨o1, c1, rfl⟩ := hu.form
  obtain ⟨o2, c2, rfl⟩ := ht.form
  have HW := Hid.intro hw
  have HV := Hid.intro hv
  have HU := Hid.intro hu
  have HT := Hid.intro ht
  clear hw hv hu ht
  refine callsIn_of_wp Tryd.func7 rfl trivial ?_ rfl
  simp only [Tryd.ntmps7, List.size_toArray, List.length_cons, List.length_nil, Nat.reduceAdd, Nat.reduceSub, Array.replicate_succ, Array.replicate_zero, List.push_toArray, List.append_toArray, List.nil_append, List.cons_append]
  gi_wp2_with (gi_at_call 17; refine stop ?_)
  unfold Stop
  obtain ⟨W1, hW1⟩ : ∃ W1, W1 = w.alloc (.cells #[.slice o1 us.length c1, .slice o2 ts.length c2] 39) := ⟨_, rfl⟩
  rw [← hW1]
  have hB1 : Below w.heap.size w W1 := by rw [hW1]; exact (Below.refl _ _).alloc (Nat.le_refl _) _
  have hz1 : w.heap.size < W1.heap.size := by rw [hW1]; simp
  have hc0 : W1.cell? ⟨w.heap.size, 0, none⟩ = some (.slice o1 us.length c1) := by rw [hW1]; exact World.cell?_alloc_new _ _ _ _
  have hc1 : W1.cell? ⟨w.heap.size, 1, none⟩ = some (.slice o2 ts.length c2) := by rw [hW1]; exact World.cell?_alloc_new _ _ _ _
  refine (tame_walk W1 n v ps (HV.out.below hB1) 9 (by omega)).mono ?_
  rintro e w2 ⟨N, x, qs, hN, rfl, hx, hql, hb, hB2⟩
  have d0 := (hB2.cell (p := ⟨w.heap.size, 0, none⟩) hz1).trans hc0
  have d1 := (hB2.cell (p := ⟨w.heap.size, 1, none⟩) hz1).trans hc1
  have hB12 := hB1.trans (hB2.mono hB1.size)
  have HB := Hid.intro hB12
  have HO0 : Hid (∀ w', Below w2.heap.size w2 w' → CallsIn Fence.wide 0 Tryd.prog 20 #[.int .i64 (N : Int), .slice o1 us.length c1] w' fun e w'' => ∃ (v' : Value) (zs : List Int), e = .returned v' ∧ IntsAt w'' v' zs ∧ IsPos (N : Int) zs ∧ Below w'.heap.size w' w'') :=
    fun w' hw => order_walk w' N hN _ us ((HU.out.below hB12).below hw)
  have HO1 : Hid (∀ w', Below w2.heap.size w2 w' → CallsIn Fence.wide 0 Tryd.prog 32 #[.slice o2 ts.length c2, .int .i64 40] w' fun e w'' => ∃ v', e = .returned v' ∧ IntsAt w'' v' (ts.take 40) ∧ Below w'.heap.size w' w'') :=
    fun w' hw => list_calls w' _ ts 40 (by omega) ((HT.out.below hB12).below hw)
  have HBk : Hid (Below w2.heap.size w2 w2) := Below.refl _ _
  have HX := Hid.intro hx
  have HB9 := Hid.intro hb
  have hz2 : w.heap.size < w2.heap.size := Nat.lt_of_lt_of_le hz1 hB2.size
  clear hW1 hB1 hz1 hc0 hc1 hB2 hB12 hx hb
  gi_wp2
  gi_region_with (first
    | (gi_at_call 20; refine (HO0.out w2.drew HBk.out.drew).mono ?_; rintro e w3 ⟨p, P, rfl, hp, hP, hB⟩; have HPp := Hid.intro hp; have HPP := Hid.intro hP; have HBk := Hid.intro (HBk.out.drew.trans (hB.mono HBk.out.drew.size)); have d1 := (hB.cell (p := ⟨w.heap.size, 1, none⟩) hz2).trans d1; clear hp hP hB)
    | (gi_at_call 32; refine (HO1.out w3 HBk.out).mono ?_; rintro e w4 ⟨q, rfl, hq, hB⟩; have HQq := Hid.intro (And.intro hq hB); have HBk := Hid.intro (HBk.out.trans (hB.mono HBk.out.size)); clear hq hB))
  all_goals
    have hx4 := HX.out.below HBk.out
    have hp4 := HPp.out.below HQq.out.2
    have hq4 := HQq.out.1
    have HBall := Hid.intro (HB.out.trans (HBk.out.mono HB.out.size))
    have H16 := Hid.intro (ser16 (HW.out.below HBall.out))
    obtain ⟨h0, hp00⟩ := PosZ.of HPP.out
    obtain ⟨zP, hzP⟩ : ∃ zP : Nat → Int, zP = (fun i => P.getD i 0) := ⟨_, rfl⟩
    have hp0 : PosZ zP N h0 := by rw [hzP]; exact hp00
    have hPl : P.length = N := by have := HPP.out.2.1; omega
    have hx5 := hx4
    rw [← ints_nats HB9.out.1] at hx5
    obtain ⟨ox, cx, rfl, hed⟩ := hx5.edges
    have HED := Hid.intro hed
    have hPi : IntsAt w4 p ((List.range N).map zP) := by
      rw [hzP]
      have e : ((List.range N).map fun i => P.getD i 0) = P := by
        refine List.ext_getElem (by simp [hPl]) fun i h1 h2 => ?_
        simp [h2]
      rw [e]; exact hp4
    obtain ⟨a0, cap1, rfl, hcap1, ha0, hz0⟩ := hPi.to_cells (by omega)
    have HZ0 := Hid.intro hz0
    have H33 : Hid (∀ w' vm ms, Below w4.heap.size w4 w' → IntsAt w' vm ms → ms.length ≤ 1000 → CallsIn Fence.wide 0 Tryd.prog 33 #[.int .i64 (N : Int), .slice ox (nats qs).length cx, .slice (some a0) N cap1, vm] w' fun e w'' => AppliedOK N (applyF (nats qs) zP h0 ms) e w'' ∧ Below w'.heap.size w' w'') := fun w' vm ms hw hm hml => by
      rw [hzP]
      exact apply_calls w' N hN _ qs (hx4.below hw) (by omega) HB9.out _ P (hp4.below hw) HPP.out h0 hp00 vm ms hm hml
    have H25 : Hid (∀ w' vm ms, Below w4.heap.size w4 w' → IntsAt w' vm ms → ms.length ≤ 1000 → CallsIn Fence.wide 0 Tryd.prog 25 #[.int .i64 (N : Int), .slice ox (nats qs).length cx, .slice (some a0) N cap1, vm] w' fun e w'' => Applied N (applyF (nats qs) zP h0 ms) e w'' ∧ Below w'.heap.size w' w'') := fun w' vm ms hw hm hml =>
      refApply_calls w' N hN ox cx (nats qs) (HED.out.below hw) (by rw [nats_len]; omega) (nats_mem HB9.out.1) a0 cap1 (Nat.lt_of_lt_of_le ha0 hw.size) hcap1 _ h0 (fun i hi => (hw.cell (p := a0.add i) (by rw [add_block]; exact ha0)).trans (HZ0.out i hi)) hp0 vm ms hm hml
    have HP0 := Hid.intro hp0
    have HQ4 := Hid.intro hq4
    have HML : Hid ((ts.take 40).length ≤ 40) := List.length_take_le 40 ts
    have hz4 : w.heap.size < w4.heap.size := Nat.lt_of_lt_of_le hz2 HBk.out.size
    clear hx4 hp4 hq4 hp0 hp00 hx5 hed hPi hz0 hzP HO0 HO1 HV HU HT HX HPp HPP HQq hPl d0 d1
    gi_wp2
    gi_loopw [9, 10] (fun vm r wr => ∃ (k : Nat) (ms : List Int), k ≤ 2 ∧ r = .int .i64 (k : Int) ∧ Hid (IntsAt wr vm ms) ∧ Hid (ms.length ≤ 40) ∧ Hid (Below w4.heap.size w4 wr)) (fun _ r _ => 2 - (intOf r).toNat)
    case atStart => exact ⟨0, ts.take 40, by omega, rfl, HQ4.out, HML.out, Below.refl _ _⟩
    case round =>
      obtain ⟨k, ms, hk, rfl, HM, HL, HBr⟩ := hrel
      by_cases hlt : k < 2
      · obtain ⟨⟨zr, nr⟩, hR⟩ : ∃ R, applyF (nats qs) zP h0 ms = R := ⟨_, rfl⟩
        have H33k := H33.out wr u9 ms HBr.out HM.out (by have := HL.out; omega)
        rw [hR] at H33k
        have H33k := Hid.intro H33k
        have H25k : Hid (∀ w', Below wr.heap.size wr w' → CallsIn Fence.wide 0 Tryd.prog 25 #[.int .i64 (N : Int), .slice ox (nats qs).length cx, .slice (some a0) N cap1, u9] w' fun e w'' => Applied N (zr, nr) e w'' ∧ Below w'.heap.size w' w'') := fun w' hw => by
          have h := H25.out w' u9 ms (HBr.out.trans (hw.mono HBr.out.size)) (HM.out.below hw) (by have := HL.out; omega)
          rw [hR] at h
          exact h
        clear hR
        gi_wp2_with (first
          | (gi_at_call 33; refine H33k.out.mono ?_; rintro e w5 ⟨⟨v5, rfl, hi5⟩, hB5⟩; have HI5 := Hid.intro hi5; have HB5 := Hid.intro hB5; clear hi5 hB5)
          | (gi_at_call 25; refine (H25k.out _ HB5.out).mono ?_; rintro e w6 ⟨⟨v6, rfl, hi6⟩, hB6⟩; have HI6 := Hid.intro hi6; have HB6 := Hid.intro hB6; clear hi6 hB6)
          | (gi_at_call 26; refine (ints_calls _ _ _ _ (HI5.out.below HB6.out) HI6.out (by simp; omega)).mono ?_; rintro e w7 ⟨rfl, hB7⟩; have HB7 := Hid.intro hB7; clear hB7))
        obtain ⟨om, cm, rfl, hmc⟩ := HM.out.cellsAt
        have HMC := Hid.intro hmc
        have HB47 : Hid (Below w4.heap.size w4 w7) := HBr.out.trans ((HB5.out.trans ((HB6.out.trans (HB7.out.mono HB6.out.size)).mono HB5.out.size)).mono HBr.out.size)
        have HBr7 : Hid (Below wr.heap.size wr w7) := HB5.out.trans ((HB6.out.trans (HB7.out.mono HB6.out.size)).mono HB5.out.size)
        clear hmc H33k H25k HI5 HI6 HB5 HB6 HB7
        gi_loopw [16, 17, 18] (fun y p i wi => ∃ (k2 : Nat) (ys : List Int) (z : Nat → Int) (h : Nat) (a : Addr) (cap : Nat), k2 ≤ ms.length ∧ i = .int .i64 (k2 : Int) ∧ Hid (NumsAt wi w7.heap.size y ys) ∧ Hid (ys.length = k2) ∧ p = .slice (some a) N cap ∧ N ≤ cap ∧ a.block < wi.heap.size ∧ Hid (∀ i, i < N → wi.cell? (a.add i) = some (.int .i64 (z i))) ∧ Hid (PosZ z N h) ∧ Hid (∀ k', y.ownBlock = some k' → k' ≠ a.block) ∧ Hid (Below w7.heap.size w7 wi)) (fun _ _ i _ => ms.length - (intOf i).toNat)
        case atStart => exact ⟨0, [], zP, h0, a0, cap1, by omega, rfl, World.ownsRow_nil _ _ _ _, rfl, rfl, hcap1, Nat.lt_of_lt_of_le ha0 HB47.out.size, fun i hi => (HB47.out.cell (p := a0.add i) (by rw [add_block]; exact ha0)).trans (HZ0.out i hi), HP0.out, Hid.intro (fun k' h => by cases h), Below.refl _ _⟩
        case round =>
          obtain ⟨k2, ys, z, h, a, cap, hk2, rfl, HY, HYL, rfl, hcap, ha, HZ, HP, HAP, HB7⟩ := hrel
          by_cases hlt2 : k2 < ms.length
          · gi_wp2
            obtain ⟨B3, hB3⟩ : ∃ B3, B3 = wr.heap.size := ⟨_, rfl⟩
            have HB3 := Hid.intro hB3
            clear hB3
            gi_loopw [19, 20] (fun y j wj => ∃ (k3 : Nat) (ns : List Int), k3 ≤ N ∧ j = .int .i64 (k3 : Int) ∧ Hid (NumsAt wj B3 y ns) ∧ Hid (ns.length ≤ k3) ∧ Hid (∀ x ∈ ns, 0 ≤ x ∧ x < N) ∧ Hid (∀ j : Nat, j < k3 → nearB (nats qs) h j = true → 0 < ns.length) ∧ Hid (Below wr.heap.size wr wj)) (fun _ j _ => N - (intOf j).toNat)
            case atStart => exact ⟨0, [], by omega, rfl, World.ownsRow_nil _ _ _ _, Hid.intro (by simp), Hid.intro (fun x hx => absurd hx (by simp)), Hid.intro (fun j hj => absurd hj (by omega)), Below.refl _ _⟩
            case round =>
              obtain ⟨k3, ns, hk3, rfl, HN, HNL, HNS, HNN, HBj⟩ := hrel
              by_cases hlt3 : k3 < N
              · have HJ : Hid (∀ w', Below wr.heap.size wr w' → CallsIn Fence.wide 0 Tryd.prog 30 #[.slice (some a) N cap] w' fun e w'' => e = .returned (.int .i64 (h : Int)) ∧ w' = w'') := fun w' hw =>
                  refHole_calls w' a N cap (by omega) z (fun i hi => (hw.cell (p := a.add i) (by rw [add_block]; exact Nat.lt_of_lt_of_le ha HBj.out.size)).trans ((HBj.out.cell (p := a.add i) (by rw [add_block]; exact ha)).trans (HZ.out i hi))) h HP.out.lt HP.out.zero HP.out.hole.first
                have H29 : Hid (CallsIn Fence.wide 0 Tryd.prog 29 #[.slice ox (nats qs).length cx, .int .i64 (h : Int), .int .i64 (k3 : Int)] wr fun e w' => e = .returned (.bool (nearB (nats qs) h k3)) ∧ wr = w') :=
                  near_calls wr ox cx (nats qs) (HED.out.below (HB47.out.trans ((HB7.out.trans (HBj.out.mono HB7.out.size)).mono HB47.out.size))) (by rw [nats_len]; omega) h k3
                cases hnb : nearB (nats qs) h k3 with
                | true =>
                  rw [hnb] at H29
                  gi_wp2_with (first
                    | (gi_at_call 30; refine (HJ.out _ (Below.refl _ _)).mono ?_; rintro e w8 ⟨rfl, rfl⟩)
                    | (gi_at_call 29; refine H29.out.mono ?_; rintro e w9 ⟨rfl, rfl⟩)
                    | (gi_at_builtin; refine stop ?_))
                  unfold Stop
                  have hk2 : ∀ k', u19.ownBlock = some k' → B3 ≤ k' ∧ k' < wr.heap.size := World.ownsRow.lt HN.out
                  have hnl := HNL.out
                  refine wpListIn_append_own _ rfl _ _ 38 rfl _ 3 Tryd.t3 _ 1 8 Go.Eng.u38 t3_info t3_zero t3_size t3_bytes rfl (by decide) _ _ _ rfl (World.ownsRow.alloc HN.out _) ⟨wr.heap.size, 0, none⟩ 1 1 [.int .i64 (k3 : Int)] rfl rfl (num_new _ _ _) (fun u hu => by simp at hu; subst hu; rfl) (by unfold maxLen; omega) (by have := HBj.out.size; have := HB3.out; omega) (by have := HBj.out.size; have := HB3.out; simp; omega) ?_
                  intro v2 wn hown2 hgrow2 _
                  have HN2 : NumsAt wn B3 v2 (ns ++ [(k3 : Int)]) := by
                    unfold NumsAt
                    rw [List.length_append, List.map_append]
                    exact hown2
                  have HNB := Hid.intro ((HBj.out.alloc HBj.out.size _).grown hgrow2 (by have := HBj.out.size; simp; omega) (fun k' h => HB3.out ▸ (hk2 k' h).1))
                  have HN2 := Hid.intro HN2
                  clear hown2 hgrow2 hk2
                  gi_wp2
                  exact ⟨⟨k3 + 1, ns ++ [(k3 : Int)], by omega, by go_num, HN2, Hid.intro (by simp; omega), Hid.intro (fun x hx => (List.mem_append.1 hx).elim (fun hx => HNS.out x hx) (fun hx => by simp at hx; omega)), Hid.intro (fun j _ _ => by simp), HNB⟩, by simp [intOf]; omega⟩
                | false =>
                  rw [hnb] at H29
                  gi_wp2_with (first
                    | (gi_at_call 30; refine (HJ.out _ (Below.refl _ _)).mono ?_; rintro e w8 ⟨rfl, rfl⟩)
                    | (gi_at_call 29; refine H29.out.mono ?_; rintro e w9 ⟨rfl, rfl⟩))
                  exact ⟨⟨k3 + 1, ns, by omega, by go_num, HN, Hid.intro (Nat.le_succ_of_le HNL.out), HNS, Hid.intro (fun j hj hn => by exact (Nat.lt_or_ge j k3).elim (fun q => HNN.out j q hn) (fun q => by have e : j = k3 := (by omega); rw [e, hnb] at hn; cases hn)), HBj⟩, by simp [intOf]; omega⟩
              · have hk3N : k3 = N := by omega
                have hpos : 0 < ns.length := by
                  obtain ⟨j, hj, hjn⟩ := near_some hN.1 HB9.out HP.out.lt
                  exact HNN.out j (by omega) hjn
                have hnl : ns.length ≤ 9 := by have := HNL.out; omega
                obtain ⟨am, rfl, ham, hmc⟩ := HMC.out (by omega)
                have g0 := ((((HBr7.out.trans (HB7.out.mono HBr7.out.size)).trans (HBj.out.mono (HBr7.out.trans (HB7.out.mono HBr7.out.size)).size)).cell (p := am.add k2) (by rw [add_block]; exact ham))).trans (hmc k2 hlt2)
                obtain ⟨x, hx⟩ : ∃ x, ms.getD k2 0 = x := ⟨_, rfl⟩
                rw [hx] at g0
                obtain ⟨A, hA, hAe⟩ := below_of x ns.length hpos (by omega)
                obtain ⟨on, cn, hu19, hnc⟩ := HN.out.ints.cellsAt
                obtain ⟨an, rfl, han, hnc⟩ := hnc hpos
                subst hu19
                have g1 := hnc A hA
                have hmem : ns.getD A 0 ∈ ns := by
                  rw [List.getD_eq_getElem?_getD, List.getElem?_eq_getElem hA]; exact List.getElem_mem hA
                have hrange := HNS.out _ hmem
                obtain ⟨T, hT⟩ : ∃ T : Nat, ns.getD A 0 = (T : Int) := ⟨(ns.getD A 0).toNat, by omega⟩
                rw [hT] at g1 hrange
                have hTN : T < N := by omega
                have hyl := HYL.out
                have hml := HL.out
                clear hmc hnc hx hT hrange hmem
                gi_wp2_with (gi_at_builtin; refine stop ?_)
                unfold Stop
                have hk2' : ∀ k', u16.ownBlock = some k' → w7.heap.size ≤ k' ∧ k' < wr.heap.size := fun k' h => by
                  have h1 := World.ownsRow.lt HY.out k' h
                  exact ⟨h1.1, Nat.lt_of_lt_of_le h1.2 HBj.out.size⟩
                refine wpListIn_append_own _ rfl _ _ 38 rfl w7.heap.size 3 Tryd.t3 _ 1 8 Go.Eng.u38 t3_info t3_zero t3_size t3_bytes rfl (by decide) _ _ _ rfl (World.ownsRow.alloc (HY.out.below HBj.out) _) ⟨wr.heap.size, 0, none⟩ 1 1 [.int .i64 (T : Int)] rfl rfl (num_new _ _ _) (fun u hu => by simp at hu; subst hu; rfl) (by unfold maxLen; omega) (by have h1 := HBj.out.size; have h2 := HB7.out.size; omega) (by have h1 := HBj.out.size; have h2 := HB7.out.size; simp; omega) ?_
                intro v2 wn hown2 hgrow2 _
                have HN2 : NumsAt wn w7.heap.size v2 (ys ++ [(T : Int)]) := by
                  unfold NumsAt
                  rw [List.length_append, List.map_append]
                  exact hown2
                have hB7r := HB7.out.trans (HBj.out.mono HB7.out.size)
                have hBn : Below w7.heap.size w7 wn := (hB7r.alloc hB7r.size _).grown hgrow2 (by have := hB7r.size; simp; omega) (fun k' h => (hk2' k' h).1)
                have har := Nat.lt_of_lt_of_le ha HBj.out.size
                have hzn : ∀ i, i < N → wn.cell? (a.add i) = some (.int .i64 (z i)) := fun i hi => by
                  have h1 := (HBj.out.cell (p := a.add i) (by rw [add_block]; exact ha)).trans (HZ.out i hi)
                  have h2 := ((((Below.refl wr.heap.size wr).alloc (Nat.le_refl _) (.cells #[.int .i64 (T : Int)] 3)).cell (p := a.add i) (by rw [add_block]; exact har))).trans h1
                  have hb := hgrow2.block (a.add i).block (by rw [add_block]; simp; omega) (fun e => by have := HAP.out _ e.symm; rw [add_block] at this; exact this rfl)
                  rw [World.cell?_of_block hb]
                  exact h2
                have han2 : a.block < wn.heap.size := by have h3 := hgrow2.size; simp at h3; omega
                have HM31 := Hid.intro (refMoved_new wn a N cap hN han2 z hzn h HP.out.hole T hTN)
                have HN2 := Hid.intro HN2
                have HBn := Hid.intro hBn
                clear hown2 hgrow2 hk2' hB7r hBn hzn
                gi_wp2_with (gi_at_call 31; refine HM31.out.mono ?_; rintro e wm ⟨gm, cm2, rfl, hgm, hcm2, hAm, hBm⟩; have HAm := Hid.intro hAm; have HBm := Hid.intro hBm; clear hAm hBm)
                exact ⟨⟨k2 + 1, ys ++ [(T : Int)], swapAt z h T, T, ⟨gm, 0, none⟩, cm2, by omega, by go_num, HN2.out.below HBm.out, Hid.intro (by simp; omega), rfl, hcm2, HAm.out.lt (by omega), Hid.intro (fun i hi => by rw [Addr.add_lit, Nat.zero_add]; exact (HAm.out i hi).1), HP.out.move hTN, Hid.intro (fun k' h e => by have h1 := (World.ownsRow.lt HN2.out k' h).2; simp at e; omega), HBn.out.trans (HBm.out.mono HBn.out.size)⟩, by simp [intOf]; omega⟩
          · gi_wp2
            exact ⟨⟨k + 1, ys, by omega, by go_num, HY.out.ints, (by show ys.length ≤ 40; have h1 := HYL.out; have h2 := HL.out; omega), HB47.out.trans (HB7.out.mono HB47.out.size)⟩, by simp [intOf]; omega⟩
      · have hk2 : k = 2 := by omega
        subst hk2
        gi_wp2_with (gi_at_call 16; refine (H16.out _ HBr.out).mono ?_; rintro e w8 ⟨rfl, hB⟩; have HB8 := Hid.intro hB; clear hB)
        all_goals (first | go_returns | go_ret | go_end0)
        exact ⟨rfl, HBall.out.trans ((HBr.out.trans (HB8.out.mono HBr.out.size)).mono HBall.out.size)⟩
end Go.Eng
