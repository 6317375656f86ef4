/-
  The law SlideGreat.
  Conditions: none.
-/
import Derived.Test.YtjcmalmcijpnnaaDoorGreA
import Derived.Test.YtjcmalmcijpnnaaDoorSolL
namespace Go.Eng
open Go.RowKit Go.Proofs Go.Proofs.YtjcmalmcijpnnaaDoor

theorem undef_no {b : Bool} {C : Prop} (h : some undef = some (Value.bool b)) : C := by cases h

set_option maxRecDepth 100000 in
set_option maxHeartbeats 16000000 in
/-- **The law SlideGreat.** -/
theorem great_calls {w : World} (hw : TabsIn w) (u t : Value) (us ts : List Int) (hu : IntsAt w u us) (ht : IntsAt w t ts) :
    CallsIn Fence.wide 0 Tryd.prog 5 #[.agg #[u, t]] w fun e w' => e = .returned (.bool true) ∧ Below w.heap.size w w' := by
  obtain ⟨o1, c1, rfl⟩ := hu.form
  obtain ⟨o2, c2, rfl⟩ := ht.form
  obtain ⟨L, hL⟩ : ∃ L, us.length = L := ⟨_, rfl⟩
  rw [hL] at hu ⊢
  clear hL
  have HW := Hid.intro hw
  have HU := Hid.intro hu
  have HT := Hid.intro ht
  clear hw hu ht
  refine callsIn_of_wp Tryd.func5 rfl trivial ?_ rfl
  simp only [Tryd.ntmps5, List.size_toArray, List.length_cons, List.length_nil, Nat.reduceAdd, Nat.reduceSub, Array.replicate_succ, Array.replicate_zero, List.push_toArray, List.append_toArray, List.nil_append, List.cons_append]
  gi_wp2_with (gi_at_call 14; refine stop ?_)
  unfold Stop
  obtain ⟨W1, hW1⟩ : ∃ W1, W1 = w.alloc (.cells #[.slice o1 L c1, .slice o2 ts.length c2] 39) := ⟨_, rfl⟩
  rw [← hW1]
  have hB1 : Below w.heap.size w W1 := by rw [hW1]; exact (Below.refl _ _).alloc (Nat.le_refl _) _
  have hz1 : w.heap.size < W1.heap.size := by rw [hW1]; simp
  have hc0 : W1.cell? ⟨w.heap.size, 0, none⟩ = some (.slice o1 L c1) := by rw [hW1]; exact World.cell?_alloc_new _ _ _ _
  have hc1 : W1.cell? ⟨w.heap.size, 1, none⟩ = some (.slice o2 ts.length c2) := by rw [hW1]; exact World.cell?_alloc_new _ _ _ _
  refine (grid_is W1 2 4 (.inl ⟨rfl, rfl⟩)).mono ?_
  clear hW1
  by_cases h13 : L = 13
  · subst h13
    rintro e w2 ⟨N0, v0, qs0, _, rfl, _, _, _, hB2⟩
    have d0 := (hB2.cell (p := ⟨w.heap.size, 0, none⟩) hz1).trans hc0
    have d1 := (hB2.cell (p := ⟨w.heap.size, 1, none⟩) hz1).trans hc1
    have HD1 := Hid.intro d1
    have HB := Hid.intro (hB1.trans (hB2.mono hB1.size))
    have hz2 : w.heap.size < w2.heap.size := Nat.lt_of_lt_of_le hz1 hB2.size
    clear d1 hB1 hB2 hc0 hc1 hz1
    gi_wp2_with (gi_at_call 14; refine stop ?_)
    unfold Stop
    refine (grid_is w2 3 3 (.inr ⟨rfl, rfl⟩)).mono ?_
    rintro e w3 ⟨N, x, qs, hNN, rfl, hx, hql, hb, hB3⟩
    have d0 := (hB3.cell (p := ⟨w.heap.size, 0, none⟩) hz2).trans d0
    have HD0 := Hid.intro d0
    have HD1 := Hid.intro ((hB3.cell (p := ⟨w.heap.size, 1, none⟩) hz2).trans HD1.out)
    have HB := Hid.intro (HB.out.trans (hB3.mono HB.out.size))
    have hz2 : w.heap.size < w3.heap.size := Nat.lt_of_lt_of_le hz2 hB3.size
    clear d0 hB3
    have hN : 2 ≤ N ∧ N ≤ 9 := hNN
    have hx5 := hx
    rw [← ints_nats hb.1] at hx5
    obtain ⟨ox, cx, rfl, hed⟩ := hx5.edges
    have d0 : w3.cell? ⟨w.heap.size, 0, none⟩ = some (.slice o1 13 c1) := HD0.out
    have d1 : w3.cell? ⟨w.heap.size, 1, none⟩ = some (.slice o2 ts.length c2) := HD1.out
    have HO0 : Hid (∀ w', Below w3.heap.size w3 w' → CallsIn Fence.wide 0 Tryd.prog 20 #[.int .i64 (N : Int), .slice o1 13 c1] w' fun e w'' => ∃ (v' : Value) (zs : List Int), e = .returned v' ∧ IntsAt w'' v' zs ∧ IsPos (N : Int) zs ∧ Below w'.heap.size w' w'') :=
      fun w' hw => order_walk w' N hN _ us ((HU.out.below HB.out).below hw)
    have HO1 : Hid (∀ w', Below w3.heap.size w3 w' → CallsIn Fence.wide 0 Tryd.prog 20 #[.int .i64 (N : Int), .slice o2 ts.length c2] w' fun e w'' => ∃ (v' : Value) (zs : List Int), e = .returned v' ∧ IntsAt w'' v' zs ∧ IsPos (N : Int) zs ∧ Below w'.heap.size w' w'') :=
      fun w' hw => order_walk w' N hN _ ts ((HT.out.below HB.out).below hw)
    have HBk : Hid (Below w3.heap.size w3 w3) := Below.refl _ _
    have HX := Hid.intro hx
    have HED := Hid.intro hed
    have HB9 := Hid.intro hb
    have hd1 := d1
    clear hx hb hed hx5
    gi_wp2
    refine region_rel (fun a' w' => ∃ vp vq zp zq, a' = { tmps := #[.agg #[.slice o1 13 c1, .slice o2 ts.length c2], .pointer (some ⟨w.heap.size, 0, none⟩), .bool false, .int .i64 (N : Int), .slice ox (nats qs).length cx, vp, vq, undef, undef, undef, undef, undef, undef, undef, undef, undef, .tuple #[.int .i64 (N0 : Int), v0], .tuple #[.int .i64 (N0 : Int), v0], .int .i64 (N0 : Int), v0, .pointer (some ⟨w.heap.size, 0, none⟩), .slice o1 13 c1, .int .i64 13, .bool true, .tuple #[.int .i64 (N : Int), .slice ox (nats qs).length cx], .tuple #[.int .i64 (N : Int), .slice ox (nats qs).length cx], .int .i64 (N : Int), .slice ox (nats qs).length cx, .int .i64 (N : Int), .pointer (some ⟨w.heap.size, 0, none⟩), .slice o1 13 c1, vp, .int .i64 (N : Int), .pointer (some ⟨w.heap.size, 1, none⟩), .slice o2 ts.length c2, vq, undef, undef, undef, undef, undef, undef, undef, undef, undef, undef, undef, undef, undef, undef, undef, undef, undef, undef, undef, undef, undef, undef, undef, undef, undef, undef, undef, undef, undef, undef, undef, undef, undef, undef, undef, undef, undef, undef, undef, undef, undef, undef, undef, undef, undef, undef, undef, undef, undef, undef, undef, undef, undef, undef, undef, undef, undef, undef, undef, undef, undef, undef, undef, undef, undef, undef, undef, undef, undef, undef, undef, undef, undef, undef, undef, undef, undef, undef], defers := [] } ∧ PosList w' vp N zp ∧ PosList w' vq N zq ∧ Below w3.heap.size w3 w') ?rest ?reg
    case reg =>
      gi_region_with (first
        | (gi_at_call 20; refine (HO0.out w3.drew HBk.out.drew).mono ?_; rintro e x3 ⟨p, P, rfl, hp, hP, hB⟩; have HPp := Hid.intro hp; have HPP := Hid.intro hP; have HBk := Hid.intro (HBk.out.drew.trans (hB.mono HBk.out.drew.size)); have d1 := (hB.cell (p := ⟨w.heap.size, 1, none⟩) hz2).trans d1; clear hp hP hB)
        | (gi_at_call 20; refine (HO1.out x3 HBk.out).mono ?_; rintro e x4 ⟨q, Q, rfl, hq, hQ, hB⟩; have HQq := Hid.intro (And.intro hq hB); have HQQ := Hid.intro hQ; have HBk := Hid.intro (HBk.out.trans (hB.mono HBk.out.size)); clear hq hQ hB))
      all_goals exact ⟨_, _, _, _, rfl, PosList.of hN (HPp.out.below HQq.out.2) HPP.out, PosList.of hN HQq.out.1 HQQ.out, HBk.out⟩
    case rest =>
      rintro a' w4 ⟨vp, vq, zp, zq, rfl, hpl, hql0, hB4⟩
      dsimp only
      have HPL := Hid.intro hpl
      have HQL := Hid.intro hql0
      have HB4 := Hid.intro hB4
      have HQ := Hid.intro (nats_mem HB9.out.1)
      have hnl : (nats qs).length ≤ 1000 := by rw [nats_len]; omega
      have HFar := Hid.intro (far_said (cx := cx) hN (HED.out.below hB4) hnl HQ.out hpl)
      clear d0 d1 hd1 HO0 HO1 HBk hpl hql0 hB4
      gi_wp2_with (gi_at_call 21; refine HFar.out.mono ?_; rintro e w5 ⟨⟨gs, cnt, most, last, st, rfl, hgs, hA, hE⟩, hB5⟩; have HA := Hid.intro hA; have HE := Hid.intro hE; have HB5 := Hid.intro hB5; clear hA hE hB5; refine stop ?_)
      unfold Stop
      obtain ⟨F, hF⟩ : ∃ F, prodF N N = F := ⟨_, rfl⟩
      have HF := Hid.intro hF
      rw [hF]
      rw [hF] at HA
      clear hF
      have hFp : 0 < F := by have := rankF_lt (z := zp) (Nat.le_refl N); have := HF.out; omega
      have hgl5 := HA.out.lt hFp
      have HA6 : Hid (ArrAt (w5.alloc (.cells #[.slice (some ⟨gs, 0, none⟩) F F, .int .i64 (cnt : Int), .int .i64 (most : Int), .int .i64 (last : Int)] 42)) gs F fun i => .int .i64 (st i)) := HA.out.alloc hgl5 _
      have HFC : Hid (ArrAt (w5.alloc (.cells #[.slice (some ⟨gs, 0, none⟩) F F, .int .i64 (cnt : Int), .int .i64 (most : Int), .int .i64 (last : Int)] 42)) w5.heap.size 4 (farC gs F cnt most last)) := farC_new w5 gs F cnt most last 42
      have HB46 : Hid (Below w4.heap.size w4 (w5.alloc (.cells #[.slice (some ⟨gs, 0, none⟩) F F, .int .i64 (cnt : Int), .int .i64 (most : Int), .int .i64 (last : Int)] 42))) := HB5.out.alloc HB5.out.size _
      obtain ⟨W6, hW6⟩ : ∃ W6, W6 = w5.alloc (.cells #[.slice (some ⟨gs, 0, none⟩) F F, .int .i64 (cnt : Int), .int .i64 (most : Int), .int .i64 (last : Int)] 42) := ⟨_, rfl⟩
      have hs6 : w5.heap.size < W6.heap.size := by rw [hW6]; simp
      rw [← hW6] at HA6 HFC HB46
      have HW6 := Hid.intro hW6
      clear hW6 HA HB5 HFar
      have HB06 : Hid (Below w.heap.size w W6) := HB.out.trans ((HB4.out.trans (HB46.out.mono HB4.out.size)).mono HB.out.size)
      have HP6 := Hid.intro (HPL.out.below HB46.out)
      have HQ6 := Hid.intro (HQL.out.below HB46.out)
      have HX6 := Hid.intro (HX.out.below (HB4.out.trans (HB46.out.mono HB4.out.size)))
      have HED6 := Hid.intro (HED.out.below (HB4.out.trans (HB46.out.mono HB4.out.size)))
      have HT6 := Hid.intro (HW.out.below HB06.out)
      have hql6 : qs.length ≤ 1000 := by omega
      have hsm := HE.out.small
      have HC23 : Hid (∀ w', Below W6.heap.size W6 w' → CallsIn Fence.wide 0 Tryd.prog 23 _ w' _) := fun w' hb => count_is (HT6.out.below hb) hN (HX6.out.below hb) hql6 HB9.out (HP6.out.below hb) HE.out.bfs
      have hgs6 := HA6.out.lt hFp
      have H16 := Hid.intro (ser16 HT6.out)
      by_cases hr : ∃ d, DistE (Mov (nats qs) N) zp d zq
      · obtain ⟨d, hd⟩ := hr
        have hst := HE.out.yes zq d HQL.out.1 hd
        have hdm := HE.out.bfs.top d zq hd
        have HS22 := Hid.intro (solve_yes HT6.out hN HX6.out hql6 HB9.out HP6.out HQ6.out hd)
        have HS24 : Hid (∀ w', Below W6.heap.size W6 w' → CallsIn Fence.wide 0 Tryd.prog 24 #[.agg #[.slice (some ⟨gs, 0, none⟩) F F, .int .i64 (cnt : Int), .int .i64 (most : Int), .int .i64 (last : Int)], vq] w' fun e w'' => e = .returned (.int .i64 (d : Int)) ∧ Below w'.heap.size w' w'') := fun w' hb => steps_is hN (HA6.out.below hgs6 hb) HF.out (HQ6.out.below hb) hst
        clear hd
        gi_wp2_with (rw [← HW6.out]; gi_at_call 22; refine HS22.out.mono ?_; rintro e w9 ⟨⟨o9, c9, ms, rfl, hml, hmi, hmp⟩, hB9⟩; have HML := Hid.intro hml; have HMI := Hid.intro hmi; have HMP := Hid.intro hmp; have HB9r := Hid.intro hB9; clear hml hmi hmp hB9; refine stop ?_)
        unfold Stop
        gi_wp2_with (gi_at_call 23; refine (HC23.out _ HB9r.out).mono ?_; rintro e w10 ⟨rfl, hB10⟩; have HB10 := Hid.intro (HB9r.out.trans (hB10.mono HB9r.out.size)); have HMI10 := Hid.intro (HMI.out.below hB10); clear hB10; refine stop ?_)
        unfold Stop
        have hA10 := HFC.out.below hs6 HB10.out
        have f0 : w10.cell? ⟨w5.heap.size, 0, none⟩ = some (.slice (some ⟨gs, 0, none⟩) F F) := (hA10 0 (by omega)).1
        have f1 : w10.cell? ⟨w5.heap.size, 1, none⟩ = some (.int .i64 (cnt : Int)) := (hA10 1 (by omega)).1
        have f2 : w10.cell? ⟨w5.heap.size, 2, none⟩ = some (.int .i64 (most : Int)) := (hA10 2 (by omega)).1
        have f3 : w10.cell? ⟨w5.heap.size, 3, none⟩ = some (.int .i64 (last : Int)) := (hA10 3 (by omega)).1
        clear hA10
        gi_wp2_with (gi_at_call 24; refine (HS24.out _ HB10.out).mono ?_; rintro e w11 ⟨rfl, hB11⟩; have f1 := (hB11.cell (p := ⟨w5.heap.size, 1, none⟩) (Nat.lt_of_lt_of_le hs6 HB10.out.size)).trans f1; have HB11 := Hid.intro (HB10.out.trans (hB11.mono HB10.out.size)); have HMI11 := Hid.intro (HMI10.out.below hB11); clear hB11 f0 f2 f3; refine stop ?_)
        unfold Stop
        have HS25 := Hid.intro (apply_is (cx := cx) hN (HED6.out.below HB11.out) hnl HQ.out (HP6.out.below HB11.out) HMI11.out HML.out (by omega) HMP.out)
        gi_wp2_with (gi_at_call 25; refine HS25.out.mono ?_; rintro e w12 ⟨⟨va, rfl, hva⟩, hB12⟩; have HVA := Hid.intro hva; have HB12 := Hid.intro (HB11.out.trans (hB12.mono HB11.out.size)); have HQ12 := Hid.intro (HQ6.out.below HB12.out); clear hva hB12; refine stop ?_)
        unfold Stop
        have HI26 := Hid.intro (ints_calls _ _ _ _ HVA.out (HQ12.out.ints hN.2) (by simp; omega))
        clear f1
        gi_wp2_with (first
          | (gi_at_call 26; refine HI26.out.mono ?_; rintro e w13 ⟨rfl, hB13⟩; have HB13 := Hid.intro (HB12.out.trans (hB13.mono HB12.out.size)); clear hB13)
          | (gi_at_call 16; refine (H16.out _ HB13.out).mono ?_; rintro e w14 ⟨rfl, hB14⟩; have HB14 := Hid.intro (HB13.out.trans (hB14.mono HB13.out.size)); clear hB14))
        all_goals (first | go_returns | go_ret | go_end0)
        exact ⟨rfl, HB06.out.trans (HB14.out.mono HB06.out.size)⟩
      · have hno : ∀ d, ¬ DistE (Mov (nats qs) N) zp d zq := fun d hd => hr ⟨d, hd⟩
        have hst := HE.out.no zq HQL.out.1 hno
        have HS22 := Hid.intro (solve_no HT6.out hN HX6.out hql6 HB9.out HP6.out HQ6.out hno)
        have HS24 : Hid (∀ w', Below W6.heap.size W6 w' → CallsIn Fence.wide 0 Tryd.prog 24 #[.agg #[.slice (some ⟨gs, 0, none⟩) F F, .int .i64 (cnt : Int), .int .i64 (most : Int), .int .i64 (last : Int)], vq] w' fun e w'' => e = .returned (.int .i64 (-1)) ∧ Below w'.heap.size w' w'') := fun w' hb => steps_is hN (HA6.out.below hgs6 hb) HF.out (HQ6.out.below hb) hst
        clear hno hr
        gi_wp2_with (rw [← HW6.out]; gi_at_call 22; refine HS22.out.mono ?_; rintro e w9 ⟨rfl, hB9⟩; have HB9r := Hid.intro hB9; clear hB9; refine stop ?_)
        unfold Stop
        gi_wp2_with (gi_at_call 23; refine (HC23.out _ HB9r.out).mono ?_; rintro e w10 ⟨rfl, hB10⟩; have HB10 := Hid.intro (HB9r.out.trans (hB10.mono HB9r.out.size)); clear hB10; refine stop ?_)
        unfold Stop
        have hA10 := HFC.out.below hs6 HB10.out
        have f0 : w10.cell? ⟨w5.heap.size, 0, none⟩ = some (.slice (some ⟨gs, 0, none⟩) F F) := (hA10 0 (by omega)).1
        have f1 : w10.cell? ⟨w5.heap.size, 1, none⟩ = some (.int .i64 (cnt : Int)) := (hA10 1 (by omega)).1
        have f2 : w10.cell? ⟨w5.heap.size, 2, none⟩ = some (.int .i64 (most : Int)) := (hA10 2 (by omega)).1
        have f3 : w10.cell? ⟨w5.heap.size, 3, none⟩ = some (.int .i64 (last : Int)) := (hA10 3 (by omega)).1
        clear hA10
        gi_wp2_with (gi_at_call 24; refine (HS24.out _ HB10.out).mono ?_; rintro e w11 ⟨rfl, hB11⟩; have f1 := (hB11.cell (p := ⟨w5.heap.size, 1, none⟩) (Nat.lt_of_lt_of_le hs6 HB10.out.size)).trans f1; have HB11 := Hid.intro (HB10.out.trans (hB11.mono HB10.out.size)); clear hB11 f0 f2 f3; refine stop ?_)
        unfold Stop
        have HS25 := Hid.intro (apply_is (cx := cx) (zq := zp) (vm := .slice none 0 0) (ms := []) (d := 0) hN (HED6.out.below HB11.out) hnl HQ.out (HP6.out.below HB11.out) (.inl ⟨rfl, rfl⟩) rfl (by omega) rfl)
        gi_wp2_with (gi_at_call 25; refine HS25.out.mono ?_; rintro e w12 ⟨⟨va, rfl, hva⟩, hB12⟩; have HB12 := Hid.intro (HB11.out.trans (hB12.mono HB11.out.size)); clear hva hB12; refine stop ?_)
        unfold Stop
        clear f1
        gi_wp2_with (gi_at_call 16; refine (H16.out _ HB12.out).mono ?_; rintro e w14 ⟨rfl, hB14⟩; have HB14 := Hid.intro (HB12.out.trans (hB14.mono HB12.out.size)); clear hB14)
        all_goals first | exact undef_no (by assumption) | skip
        all_goals (first | go_returns | go_ret | go_end0)
        all_goals exact ⟨rfl, HB06.out.trans (HB14.out.mono HB06.out.size)⟩
  · rintro e w2 ⟨N, x, qs, hNN, rfl, hx, hql, hb, hB2⟩
    have HD0 := Hid.intro ((hB2.cell (p := ⟨w.heap.size, 0, none⟩) hz1).trans hc0)
    have HD1 := Hid.intro ((hB2.cell (p := ⟨w.heap.size, 1, none⟩) hz1).trans hc1)
    have HB := Hid.intro (hB1.trans (hB2.mono hB1.size))
    have hz2 : w.heap.size < w2.heap.size := Nat.lt_of_lt_of_le hz1 hB2.size
    have h13' : ¬ ((L : Int) = 13) := by omega
    clear hB1 hB2 hc0 hc1 hz1 h13
    have hN : 2 ≤ N ∧ N ≤ 9 := hNN
    have hx5 := hx
    rw [← ints_nats hb.1] at hx5
    obtain ⟨ox, cx, rfl, hed⟩ := hx5.edges
    have d0 : w2.cell? ⟨w.heap.size, 0, none⟩ = some (.slice o1 L c1) := HD0.out
    have d1 : w2.cell? ⟨w.heap.size, 1, none⟩ = some (.slice o2 ts.length c2) := HD1.out
    have HO0 : Hid (∀ w', Below w2.heap.size w2 w' → CallsIn Fence.wide 0 Tryd.prog 20 #[.int .i64 (N : Int), .slice o1 L c1] w' fun e w'' => ∃ (v' : Value) (zs : List Int), e = .returned v' ∧ IntsAt w'' v' zs ∧ IsPos (N : Int) zs ∧ Below w'.heap.size w' w'') :=
      fun w' hw => order_walk w' N hN _ us ((HU.out.below HB.out).below hw)
    have HO1 : Hid (∀ w', Below w2.heap.size w2 w' → CallsIn Fence.wide 0 Tryd.prog 20 #[.int .i64 (N : Int), .slice o2 ts.length c2] w' fun e w'' => ∃ (v' : Value) (zs : List Int), e = .returned v' ∧ IntsAt w'' v' zs ∧ IsPos (N : Int) zs ∧ Below w'.heap.size w' w'') :=
      fun w' hw => order_walk w' N hN _ ts ((HT.out.below HB.out).below hw)
    have HBk : Hid (Below w2.heap.size w2 w2) := Below.refl _ _
    have HX := Hid.intro hx
    have HED := Hid.intro hed
    have HB9 := Hid.intro hb
    have hd1 := d1
    clear hx hb hed hx5
    gi_wp2
    refine region_rel (fun a' w' => ∃ vp vq zp zq, a' = { tmps := #[.agg #[.slice o1 L c1, .slice o2 ts.length c2], .pointer (some ⟨w.heap.size, 0, none⟩), .bool false, .int .i64 (N : Int), .slice ox (nats qs).length cx, vp, vq, undef, undef, undef, undef, undef, undef, undef, undef, undef, .tuple #[.int .i64 (N : Int), .slice ox (nats qs).length cx], .tuple #[.int .i64 (N : Int), .slice ox (nats qs).length cx], .int .i64 (N : Int), .slice ox (nats qs).length cx, .pointer (some ⟨w.heap.size, 0, none⟩), .slice o1 L c1, .int .i64 (L : Int), .bool false, undef, undef, undef, undef, .int .i64 (N : Int), .pointer (some ⟨w.heap.size, 0, none⟩), .slice o1 L c1, vp, .int .i64 (N : Int), .pointer (some ⟨w.heap.size, 1, none⟩), .slice o2 ts.length c2, vq, undef, undef, undef, undef, undef, undef, undef, undef, undef, undef, undef, undef, undef, undef, undef, undef, undef, undef, undef, undef, undef, undef, undef, undef, undef, undef, undef, undef, undef, undef, undef, undef, undef, undef, undef, undef, undef, undef, undef, undef, undef, undef, undef, undef, undef, undef, undef, undef, undef, undef, undef, undef, undef, undef, undef, undef, undef, undef, undef, undef, undef, undef, undef, undef, undef, undef, undef, undef, undef, undef, undef, undef, undef, undef, undef, undef, undef, undef], defers := [] } ∧ PosList w' vp N zp ∧ PosList w' vq N zq ∧ Below w2.heap.size w2 w') ?rest ?reg
    case reg =>
      gi_region_with (first
        | (gi_at_call 20; refine (HO0.out w2.drew HBk.out.drew).mono ?_; rintro e x3 ⟨p, P, rfl, hp, hP, hB⟩; have HPp := Hid.intro hp; have HPP := Hid.intro hP; have HBk := Hid.intro (HBk.out.drew.trans (hB.mono HBk.out.drew.size)); have d1 := (hB.cell (p := ⟨w.heap.size, 1, none⟩) hz2).trans d1; clear hp hP hB)
        | (gi_at_call 20; refine (HO1.out x3 HBk.out).mono ?_; rintro e x4 ⟨q, Q, rfl, hq, hQ, hB⟩; have HQq := Hid.intro (And.intro hq hB); have HQQ := Hid.intro hQ; have HBk := Hid.intro (HBk.out.trans (hB.mono HBk.out.size)); clear hq hQ hB))
      all_goals exact ⟨_, _, _, _, rfl, PosList.of hN (HPp.out.below HQq.out.2) HPP.out, PosList.of hN HQq.out.1 HQQ.out, HBk.out⟩
    case rest =>
      rintro a' w4 ⟨vp, vq, zp, zq, rfl, hpl, hql0, hB4⟩
      dsimp only
      have HPL := Hid.intro hpl
      have HQL := Hid.intro hql0
      have HB4 := Hid.intro hB4
      have HQ := Hid.intro (nats_mem HB9.out.1)
      have hnl : (nats qs).length ≤ 1000 := by rw [nats_len]; omega
      have HFar := Hid.intro (far_said (cx := cx) hN (HED.out.below hB4) hnl HQ.out hpl)
      clear d0 d1 hd1 HO0 HO1 HBk hpl hql0 hB4
      gi_wp2_with (gi_at_call 21; refine HFar.out.mono ?_; rintro e w5 ⟨⟨gs, cnt, most, last, st, rfl, hgs, hA, hE⟩, hB5⟩; have HA := Hid.intro hA; have HE := Hid.intro hE; have HB5 := Hid.intro hB5; clear hA hE hB5; refine stop ?_)
      unfold Stop
      obtain ⟨F, hF⟩ : ∃ F, prodF N N = F := ⟨_, rfl⟩
      have HF := Hid.intro hF
      rw [hF]
      rw [hF] at HA
      clear hF
      have hFp : 0 < F := by have := rankF_lt (z := zp) (Nat.le_refl N); have := HF.out; omega
      have hgl5 := HA.out.lt hFp
      have HA6 : Hid (ArrAt (w5.alloc (.cells #[.slice (some ⟨gs, 0, none⟩) F F, .int .i64 (cnt : Int), .int .i64 (most : Int), .int .i64 (last : Int)] 42)) gs F fun i => .int .i64 (st i)) := HA.out.alloc hgl5 _
      have HFC : Hid (ArrAt (w5.alloc (.cells #[.slice (some ⟨gs, 0, none⟩) F F, .int .i64 (cnt : Int), .int .i64 (most : Int), .int .i64 (last : Int)] 42)) w5.heap.size 4 (farC gs F cnt most last)) := farC_new w5 gs F cnt most last 42
      have HB46 : Hid (Below w4.heap.size w4 (w5.alloc (.cells #[.slice (some ⟨gs, 0, none⟩) F F, .int .i64 (cnt : Int), .int .i64 (most : Int), .int .i64 (last : Int)] 42))) := HB5.out.alloc HB5.out.size _
      obtain ⟨W6, hW6⟩ : ∃ W6, W6 = w5.alloc (.cells #[.slice (some ⟨gs, 0, none⟩) F F, .int .i64 (cnt : Int), .int .i64 (most : Int), .int .i64 (last : Int)] 42) := ⟨_, rfl⟩
      have hs6 : w5.heap.size < W6.heap.size := by rw [hW6]; simp
      rw [← hW6] at HA6 HFC HB46
      have HW6 := Hid.intro hW6
      clear hW6 HA HB5 HFar
      have HB06 : Hid (Below w.heap.size w W6) := HB.out.trans ((HB4.out.trans (HB46.out.mono HB4.out.size)).mono HB.out.size)
      have HP6 := Hid.intro (HPL.out.below HB46.out)
      have HQ6 := Hid.intro (HQL.out.below HB46.out)
      have HX6 := Hid.intro (HX.out.below (HB4.out.trans (HB46.out.mono HB4.out.size)))
      have HED6 := Hid.intro (HED.out.below (HB4.out.trans (HB46.out.mono HB4.out.size)))
      have HT6 := Hid.intro (HW.out.below HB06.out)
      have hql6 : qs.length ≤ 1000 := by omega
      have hsm := HE.out.small
      have HC23 : Hid (∀ w', Below W6.heap.size W6 w' → CallsIn Fence.wide 0 Tryd.prog 23 _ w' _) := fun w' hb => count_is (HT6.out.below hb) hN (HX6.out.below hb) hql6 HB9.out (HP6.out.below hb) HE.out.bfs
      have hgs6 := HA6.out.lt hFp
      have H16 := Hid.intro (ser16 HT6.out)
      by_cases hr : ∃ d, DistE (Mov (nats qs) N) zp d zq
      · obtain ⟨d, hd⟩ := hr
        have hst := HE.out.yes zq d HQL.out.1 hd
        have hdm := HE.out.bfs.top d zq hd
        have HS22 := Hid.intro (solve_yes HT6.out hN HX6.out hql6 HB9.out HP6.out HQ6.out hd)
        have HS24 : Hid (∀ w', Below W6.heap.size W6 w' → CallsIn Fence.wide 0 Tryd.prog 24 #[.agg #[.slice (some ⟨gs, 0, none⟩) F F, .int .i64 (cnt : Int), .int .i64 (most : Int), .int .i64 (last : Int)], vq] w' fun e w'' => e = .returned (.int .i64 (d : Int)) ∧ Below w'.heap.size w' w'') := fun w' hb => steps_is hN (HA6.out.below hgs6 hb) HF.out (HQ6.out.below hb) hst
        clear hd
        gi_wp2_with (rw [← HW6.out]; gi_at_call 22; refine HS22.out.mono ?_; rintro e w9 ⟨⟨o9, c9, ms, rfl, hml, hmi, hmp⟩, hB9⟩; have HML := Hid.intro hml; have HMI := Hid.intro hmi; have HMP := Hid.intro hmp; have HB9r := Hid.intro hB9; clear hml hmi hmp hB9; refine stop ?_)
        unfold Stop
        gi_wp2_with (gi_at_call 23; refine (HC23.out _ HB9r.out).mono ?_; rintro e w10 ⟨rfl, hB10⟩; have HB10 := Hid.intro (HB9r.out.trans (hB10.mono HB9r.out.size)); have HMI10 := Hid.intro (HMI.out.below hB10); clear hB10; refine stop ?_)
        unfold Stop
        have hA10 := HFC.out.below hs6 HB10.out
        have f0 : w10.cell? ⟨w5.heap.size, 0, none⟩ = some (.slice (some ⟨gs, 0, none⟩) F F) := (hA10 0 (by omega)).1
        have f1 : w10.cell? ⟨w5.heap.size, 1, none⟩ = some (.int .i64 (cnt : Int)) := (hA10 1 (by omega)).1
        have f2 : w10.cell? ⟨w5.heap.size, 2, none⟩ = some (.int .i64 (most : Int)) := (hA10 2 (by omega)).1
        have f3 : w10.cell? ⟨w5.heap.size, 3, none⟩ = some (.int .i64 (last : Int)) := (hA10 3 (by omega)).1
        clear hA10
        gi_wp2_with (gi_at_call 24; refine (HS24.out _ HB10.out).mono ?_; rintro e w11 ⟨rfl, hB11⟩; have f1 := (hB11.cell (p := ⟨w5.heap.size, 1, none⟩) (Nat.lt_of_lt_of_le hs6 HB10.out.size)).trans f1; have HB11 := Hid.intro (HB10.out.trans (hB11.mono HB10.out.size)); have HMI11 := Hid.intro (HMI10.out.below hB11); clear hB11 f0 f2 f3; refine stop ?_)
        unfold Stop
        have HS25 := Hid.intro (apply_is (cx := cx) hN (HED6.out.below HB11.out) hnl HQ.out (HP6.out.below HB11.out) HMI11.out HML.out (by omega) HMP.out)
        gi_wp2_with (gi_at_call 25; refine HS25.out.mono ?_; rintro e w12 ⟨⟨va, rfl, hva⟩, hB12⟩; have HVA := Hid.intro hva; have HB12 := Hid.intro (HB11.out.trans (hB12.mono HB11.out.size)); have HQ12 := Hid.intro (HQ6.out.below HB12.out); clear hva hB12; refine stop ?_)
        unfold Stop
        have HI26 := Hid.intro (ints_calls _ _ _ _ HVA.out (HQ12.out.ints hN.2) (by simp; omega))
        clear f1
        gi_wp2_with (first
          | (gi_at_call 26; refine HI26.out.mono ?_; rintro e w13 ⟨rfl, hB13⟩; have HB13 := Hid.intro (HB12.out.trans (hB13.mono HB12.out.size)); clear hB13)
          | (gi_at_call 16; refine (H16.out _ HB13.out).mono ?_; rintro e w14 ⟨rfl, hB14⟩; have HB14 := Hid.intro (HB13.out.trans (hB14.mono HB13.out.size)); clear hB14))
        all_goals (first | go_returns | go_ret | go_end0)
        exact ⟨rfl, HB06.out.trans (HB14.out.mono HB06.out.size)⟩
      · have hno : ∀ d, ¬ DistE (Mov (nats qs) N) zp d zq := fun d hd => hr ⟨d, hd⟩
        have hst := HE.out.no zq HQL.out.1 hno
        have HS22 := Hid.intro (solve_no HT6.out hN HX6.out hql6 HB9.out HP6.out HQ6.out hno)
        have HS24 : Hid (∀ w', Below W6.heap.size W6 w' → CallsIn Fence.wide 0 Tryd.prog 24 #[.agg #[.slice (some ⟨gs, 0, none⟩) F F, .int .i64 (cnt : Int), .int .i64 (most : Int), .int .i64 (last : Int)], vq] w' fun e w'' => e = .returned (.int .i64 (-1)) ∧ Below w'.heap.size w' w'') := fun w' hb => steps_is hN (HA6.out.below hgs6 hb) HF.out (HQ6.out.below hb) hst
        clear hno hr
        gi_wp2_with (rw [← HW6.out]; gi_at_call 22; refine HS22.out.mono ?_; rintro e w9 ⟨rfl, hB9⟩; have HB9r := Hid.intro hB9; clear hB9; refine stop ?_)
        unfold Stop
        gi_wp2_with (gi_at_call 23; refine (HC23.out _ HB9r.out).mono ?_; rintro e w10 ⟨rfl, hB10⟩; have HB10 := Hid.intro (HB9r.out.trans (hB10.mono HB9r.out.size)); clear hB10; refine stop ?_)
        unfold Stop
        have hA10 := HFC.out.below hs6 HB10.out
        have f0 : w10.cell? ⟨w5.heap.size, 0, none⟩ = some (.slice (some ⟨gs, 0, none⟩) F F) := (hA10 0 (by omega)).1
        have f1 : w10.cell? ⟨w5.heap.size, 1, none⟩ = some (.int .i64 (cnt : Int)) := (hA10 1 (by omega)).1
        have f2 : w10.cell? ⟨w5.heap.size, 2, none⟩ = some (.int .i64 (most : Int)) := (hA10 2 (by omega)).1
        have f3 : w10.cell? ⟨w5.heap.size, 3, none⟩ = some (.int .i64 (last : Int)) := (hA10 3 (by omega)).1
        clear hA10
        gi_wp2_with (gi_at_call 24; refine (HS24.out _ HB10.out).mono ?_; rintro e w11 ⟨rfl, hB11⟩; have f1 := (hB11.cell (p := ⟨w5.heap.size, 1, none⟩) (Nat.lt_of_lt_of_le hs6 HB10.out.size)).trans f1; have HB11 := Hid.intro (HB10.out.trans (hB11.mono HB10.out.size)); clear hB11 f0 f2 f3; refine stop ?_)
        unfold Stop
        have HS25 := Hid.intro (apply_is (cx := cx) (zq := zp) (vm := .slice none 0 0) (ms := []) (d := 0) hN (HED6.out.below HB11.out) hnl HQ.out (HP6.out.below HB11.out) (.inl ⟨rfl, rfl⟩) rfl (by omega) rfl)
        gi_wp2_with (gi_at_call 25; refine HS25.out.mono ?_; rintro e w12 ⟨⟨va, rfl, hva⟩, hB12⟩; have HB12 := Hid.intro (HB11.out.trans (hB12.mono HB11.out.size)); clear hva hB12; refine stop ?_)
        unfold Stop
        clear f1
        gi_wp2_with (gi_at_call 16; refine (H16.out _ HB12.out).mono ?_; rintro e w14 ⟨rfl, hB14⟩; have HB14 := Hid.intro (HB12.out.trans (hB14.mono HB12.out.size)); clear hB14)
        all_goals first | exact undef_no (by assumption) | skip
        all_goals (first | go_returns | go_ret | go_end0)
        all_goals exact ⟨rfl, HB06.out.trans (HB14.out.mono HB06.out.size)⟩
end Go.Eng
