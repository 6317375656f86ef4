/-
  The law SlideBack.
  Conditions: none.
-/
import Derived.Test.YtjcmalmcijpnnaaDoorBckA
import Derived.Test.YtjcmalmcijpnnaaDoorSolL
namespace Go.Eng
open Go.RowKit Go.Proofs Go.Proofs.YtjcmalmcijpnnaaDoor

theorem bfs_small {qs : List (Nat × Nat)} {N : Nat} {p : Nat → Int} {a b c : Nat} (hN : 2 ≤ N ∧ N ≤ 9) (h : Bfs (Mov qs N) p a b c) (hp : Pos N p) : a ≤ 362880 := by
  obtain ⟨L, hL, rfl⟩ := h.all
  refine Nat.le_trans (pos_count hL.1 fun z hz => ?_) (prodF_le hN.2)
  obtain ⟨d, hd⟩ := (hL.2 z).1 hz
  exact hd.1.pos hp
section
variable {w : World} {N : Nat} {v : Value} {ps : List (Int × Int)} {vp : Value} {zp : Nat → Int}
theorem count_found (hT : TabsIn w) (hN : 2 ≤ N ∧ N ≤ 9) (hv : PairsAt w v ps) (hl : ps.length ≤ 1000) (hb : IsBoard N ps) (hp : PosList w vp N zp) :
    CallsIn Fence.wide 0 Tryd.prog 23 #[.int .i64 (N : Int), v, vp] w fun e w' => (∃ cnt most last, Bfs (Mov (nats ps) N) zp cnt most last ∧ e = .returned (.tuple #[.int .i64 ((cnt : Nat) : Int), .int .i64 0])) ∧ Below w.heap.size w w' := by
  have h1 := count_calls w hT N hN v ps hv hl hb vp _ (hp.ints hN.2) (PosList.isPos hN hp.1)
  rw [posFun hp.1] at h1
  exact h1
theorem slideApply_is (_hT : TabsIn w) (hN : 2 ≤ N ∧ N ≤ 9) (hv : PairsAt w v ps) (hl : ps.length ≤ 1000) (hb : IsBoard N ps) (hp : PosList w vp N zp) {h0 : Nat} (hz : PosZ zp N h0) {vm : Value} {ms : List Int} (hm : IntsAt w vm ms) (hml : ms.length ≤ 1000) :
    CallsIn Fence.wide 0 Tryd.prog 33 #[.int .i64 (N : Int), v, vp, vm] w fun e w' => (∃ v', e = .returned (.tuple #[v', .int .i64 (((applyF (nats ps) zp h0 ms).2 : Nat) : Int), .int .i64 0]) ∧ IntsAt w' v' ((List.range N).map (applyF (nats ps) zp h0 ms).1)) ∧ Below w.heap.size w w' := by
  have h1 := apply_calls w N hN v ps hv hl hb vp _ (hp.ints hN.2) (PosList.isPos hN hp.1) h0 (by rw [posFun hp.1]; exact hz) vm ms hm hml
  rw [posFun hp.1] at h1
  exact h1
end

set_option maxRecDepth 100000 in
set_option maxHeartbeats 16000000 in
/-- **The law SlideBack.** -/
theorem back_calls {w : World} (hw : TabsIn w) (n : Int) (v u t : Value) (ps : List (Int × Int)) (us ts : List Int) (hv : PairsAt w v ps) (hu : IntsAt w u us) (ht : IntsAt w t ts) :
    CallsIn Fence.wide 0 Tryd.prog 8 #[.int .i64 n, v, .agg #[u, t]] w fun e w' => e = .returned (.bool true) ∧ Below w.heap.size w w' := by
  obtain ⟨o1, c1, rfl⟩ := hu.form
  obtain ⟨o2, c2, rfl⟩ := ht.form
  have HW := Hid.intro hw
  have HV := Hid.intro hv
  have HU := Hid.intro hu
  have HT := Hid.intro ht
  clear hw hv hu ht
  refine callsIn_of_wp Tryd.func8 rfl trivial ?_ rfl
  simp only [Tryd.ntmps8, List.size_toArray, List.length_cons, List.length_nil, Nat.reduceAdd, Nat.reduceSub, Array.replicate_succ, Array.replicate_zero, List.push_toArray, List.append_toArray, List.nil_append, List.cons_append]
  gi_wp2_with (gi_at_call 17; refine stop ?_)
  unfold Stop
  obtain ⟨W1, hW1⟩ : ∃ W1, W1 = w.alloc (.cells #[.slice o1 us.length c1, .slice o2 ts.length c2] 39) := ⟨_, rfl⟩
  rw [← hW1]
  have hB1 : Below w.heap.size w W1 := by rw [hW1]; exact (Below.refl _ _).alloc (Nat.le_refl _) _
  have hz1 : w.heap.size < W1.heap.size := by rw [hW1]; simp
  have hc0 : W1.cell? ⟨w.heap.size, 0, none⟩ = some (.slice o1 us.length c1) := by rw [hW1]; exact World.cell?_alloc_new _ _ _ _
  have hc1 : W1.cell? ⟨w.heap.size, 1, none⟩ = some (.slice o2 ts.length c2) := by rw [hW1]; exact World.cell?_alloc_new _ _ _ _
  refine (tame_walk W1 n v ps (HV.out.below hB1) 7 (by omega)).mono ?_
  rintro e w2 ⟨N, x, qs, hN7, rfl, hx, hql, hb, hB2⟩
  have hN : 2 ≤ N ∧ N ≤ 9 := by omega
  have hx5 := hx
  rw [← ints_nats hb.1] at hx5
  obtain ⟨ox, cx, rfl, hed⟩ := hx5.edges
  have d0 := (hB2.cell (p := ⟨w.heap.size, 0, none⟩) hz1).trans hc0
  have d1 := (hB2.cell (p := ⟨w.heap.size, 1, none⟩) hz1).trans hc1
  have hB12 := hB1.trans (hB2.mono hB1.size)
  have HB := Hid.intro hB12
  have HO0 : Hid (∀ w', Below w2.heap.size w2 w' → CallsIn Fence.wide 0 Tryd.prog 20 #[.int .i64 (N : Int), .slice o1 us.length c1] w' fun e w'' => ∃ (v' : Value) (zs : List Int), e = .returned v' ∧ IntsAt w'' v' zs ∧ IsPos (N : Int) zs ∧ Below w'.heap.size w' w'') :=
    fun w' hw => order_walk w' N hN _ us ((HU.out.below hB12).below hw)
  have HO1 : Hid (∀ w', Below w2.heap.size w2 w' → CallsIn Fence.wide 0 Tryd.prog 20 #[.int .i64 (N : Int), .slice o2 ts.length c2] w' fun e w'' => ∃ (v' : Value) (zs : List Int), e = .returned v' ∧ IntsAt w'' v' zs ∧ IsPos (N : Int) zs ∧ Below w'.heap.size w' w'') :=
    fun w' hw => order_walk w' N hN _ ts ((HT.out.below hB12).below hw)
  have HBk : Hid (Below w2.heap.size w2 w2) := Below.refl _ _
  have HX := Hid.intro hx
  have HB9 := Hid.intro hb
  have hz2 : w.heap.size < w2.heap.size := Nat.lt_of_lt_of_le hz1 hB2.size
  have hd1 := d1
  clear hW1 hB1 hz1 hc0 hc1 hB2 hB12 hx hb hed hx5
  gi_wp2
  refine region_rel (fun a' w' => ∃ vp vq zp zq, a' = { tmps := #[.int .i64 (N : Int), v, .agg #[.slice o1 us.length c1, .slice o2 ts.length c2], undef, undef, .pointer (some ⟨w.heap.size, 0, none⟩), .bool false, .slice ox (nats qs).length cx, vp, vq, undef, undef, undef, undef, undef, undef, undef, undef, undef, undef, undef, undef, undef, undef, undef, undef, undef, undef, undef, undef, undef, .tuple #[.int .i64 (N : Int), .slice ox (nats qs).length cx], .int .i64 n, v, .tuple #[.int .i64 (N : Int), .slice ox (nats qs).length cx], .int .i64 (N : Int), .slice ox (nats qs).length cx, .int .i64 (N : Int), .pointer (some ⟨w.heap.size, 0, none⟩), .slice o1 us.length c1, vp, .int .i64 (N : Int), .pointer (some ⟨w.heap.size, 1, none⟩), .slice o2 ts.length c2, vq, undef, undef, undef, undef, undef, undef, undef, undef, undef, undef, undef, undef, undef, undef, undef, undef, undef, undef, undef, undef, undef, undef, undef, undef, undef, undef, undef, undef, undef, undef, undef, undef, undef, undef, undef, undef, undef, undef, undef, undef, undef, undef, undef, undef, undef, undef, undef, undef, undef, undef, undef, undef, undef, undef, undef, undef, undef, undef, undef, undef, undef, undef, undef, undef, undef, undef, undef, undef, undef, undef, undef, undef, undef, undef, undef, undef, undef, undef, undef, undef, undef, undef, undef, undef, undef, undef, undef, undef, undef, undef, undef, undef, undef, undef, undef, undef, undef, undef, undef, undef, undef, undef, undef, undef, undef, undef, undef, undef, undef, undef, undef, undef, undef, undef, undef, undef, undef, undef, undef, undef, undef, undef, undef, undef, undef, undef, undef, undef, undef, undef, undef, undef, undef, undef, undef, undef, undef, undef, undef, undef, undef, undef, undef, undef, undef, undef, undef, undef], defers := [] } ∧ PosList w' vp N zp ∧ PosList w' vq N zq ∧ Below w2.heap.size w2 w') ?rest ?reg
  case reg =>
    gi_region_with (first
      | (gi_at_call 20; refine (HO0.out w2.drew HBk.out.drew).mono ?_; rintro e w3 ⟨p, P, rfl, hp, hP, hB⟩; have HPp := Hid.intro hp; have HPP := Hid.intro hP; have HBk := Hid.intro (HBk.out.drew.trans (hB.mono HBk.out.drew.size)); have d1 := (hB.cell (p := ⟨w.heap.size, 1, none⟩) hz2).trans d1; clear hp hP hB)
      | (gi_at_call 20; refine (HO1.out w3 HBk.out).mono ?_; rintro e w4 ⟨q, Q, rfl, hq, hQ, hB⟩; have HQq := Hid.intro (And.intro hq hB); have HQQ := Hid.intro hQ; have HBk := Hid.intro (HBk.out.trans (hB.mono HBk.out.size)); clear hq hQ hB))
    all_goals exact ⟨_, _, _, _, rfl, PosList.of hN (HPp.out.below HQq.out.2) HPP.out, PosList.of hN HQq.out.1 HQQ.out, HBk.out⟩
  case rest =>
    rintro a' w4 ⟨vp, vq, zp, zq, rfl, hpl, hql0, hB4⟩
    dsimp only
    have HPL := Hid.intro hpl
    have HQL := Hid.intro hql0
    have HB4 := Hid.intro hB4
    have HB04 : Hid (Below w.heap.size w w4) := HB.out.trans (hB4.mono HB.out.size)
    have HX4 := Hid.intro (HX.out.below hB4)
    have HT4 := Hid.intro (HW.out.below HB04.out)
    have HQ := Hid.intro (nats_mem HB9.out.1)
    have hqlB : qs.length ≤ 1000 := by omega
    have d14 := (hB4.cell (p := ⟨w.heap.size, 1, none⟩) hz2).trans hd1
    have hz4 : w.heap.size < w4.heap.size := Nat.lt_of_lt_of_le hz2 hB4.size
    have HC23 : Hid (∀ w', Below w4.heap.size w4 w' → CallsIn Fence.wide 0 Tryd.prog 23 _ w' _) := fun w' hb => count_found (HT4.out.below hb) hN (HX4.out.below hb) hqlB HB9.out (HPL.out.below hb)
    have HC18 : Hid (∀ w', Below w4.heap.size w4 w' → CallsIn Fence.wide 0 Tryd.prog 18 _ w' _) := fun w' hb => size_calls w' (HT4.out.below hb) N hN _ qs (HX4.out.below hb) hqlB HB9.out
    clear d0 d1 hd1 HO0 HO1 HBk hpl hql0 hB4
    by_cases hr : ∃ d, DistE (Mov (nats qs) N) zp d zq
    · obtain ⟨d, hd⟩ := hr
      have HD := Hid.intro hd
      have HS22 := Hid.intro (solve_yes HT4.out hN HX4.out hqlB HB9.out HPL.out HQL.out hd)
      have HS22b : Hid (∀ w', Below w4.heap.size w4 w' → CallsIn Fence.wide 0 Tryd.prog 22 _ w' _) := fun w' hb => solve_yes (HT4.out.below hb) hN (HX4.out.below hb) hqlB HB9.out (HQL.out.below hb) (HPL.out.below hb) (HD.out.symm fun a b => Mov.symm)
      clear hd
      gi_wp2_with (gi_at_call 22; refine HS22.out.mono ?_; rintro e w5 ⟨⟨o5, c5, ms, rfl, hml, hmi, hmp⟩, hB5⟩; have HB5 := Hid.intro hB5; clear hml hmi hmp hB5; refine stop ?_)
      unfold Stop
      gi_wp2_with (gi_at_call 22; refine (HS22b.out _ HB5.out).mono ?_; rintro e wz ⟨⟨o6, c6, ms6, rfl, hml, hmi, hmp⟩, hB6⟩; have HBz := Hid.intro (HB5.out.trans (hB6.mono HB5.out.size)); clear hml hmi hmp hB6; refine stop ?_)
      unfold Stop
      gi_wp2_with (gi_at_call 23; refine (HC23.out _ HBz.out).mono ?_; rintro e w7 ⟨⟨cnt, most, last, hbf, rfl⟩, hB7⟩; have HBF := Hid.intro hbf; have HB7 := Hid.intro (HBz.out.trans (hB7.mono HBz.out.size)); clear hbf hB7; refine stop ?_)
      unfold Stop
      gi_wp2_with (gi_at_call 18; refine (HC18.out _ HB7.out).mono ?_; rintro e w8 ⟨⟨c', m', l', hbf', rfl⟩, hB8⟩; have HBF' := Hid.intro hbf'; obtain ⟨Z, hZ⟩ : ∃ Z, c' / N = Z := ⟨_, rfl⟩; rw [hZ]; have HB8 := Hid.intro (HB7.out.trans (hB8.mono HB7.out.size)); clear hbf' hB8; refine stop ?_)
      unfold Stop
      have hsm := bfs_small hN HBF.out HPL.out.1
      have hmul : wrap64 ((N : Int) * (Z : Int)) = (cnt : Int) := by
        have := bfs_mul hN HB9.out HPL.out.1 HBF.out HBF'.out
        rw [hZ] at this
        have h2 : (N : Int) * (Z : Int) = (cnt : Int) := by rw [← this]; exact (Int.natCast_mul N Z).symm
        rw [h2]
        unfold wrap64
        omega
      obtain ⟨hl1, hl2⟩ := bfs_last HBF.out
      have hdm := HBF.out.top d zq HD.out
      have HC27 := Hid.intro (far_is (HT4.out.below HB8.out) hN (HX4.out.below HB8.out) hqlB HB9.out (HPL.out.below HB8.out) HBF.out)
      clear hZ
      gi_wp2_with (gi_at_call 27; refine HC27.out.mono ?_; rintro e w9 ⟨rfl, hB9⟩; have HB9' := Hid.intro (HB8.out.trans (hB9.mono HB8.out.size)); clear hB9; refine stop ?_)
      unfold Stop
      have f1 : w9.cell? ⟨w.heap.size, 1, none⟩ = some (.slice o2 ts.length c2) := (HB9'.out.cell (p := ⟨w.heap.size, 1, none⟩) hz4).trans d14
      have HL32 := Hid.intro (list_calls w9 _ ts 30 (by omega) (HT.out.below (HB04.out.trans (HB9'.out.mono HB04.out.size))))
      gi_wp2_with (gi_at_call 32; refine HL32.out.mono ?_; rintro e w10 ⟨vm, rfl, hvm, hB10⟩; have HVM := Hid.intro hvm; have HB10 := Hid.intro (HB9'.out.trans (hB10.mono HB9'.out.size)); clear hvm hB10; refine stop ?_)
      unfold Stop
      clear f1
      obtain ⟨ms0, hms0⟩ : ∃ m, ts.take 30 = m := ⟨_, rfl⟩
      have hml0 : ms0.length ≤ 30 := by rw [← hms0, List.length_take]; omega
      rw [hms0] at HVM
      clear hms0
      obtain ⟨om, cm, rfl⟩ := HVM.out.form
      obtain ⟨h0, hz0⟩ := HPL.out.1.ex_hole (by omega) (by omega)
      obtain ⟨r, done, hap⟩ : ∃ r done, applyF (nats qs) zp h0 ms0 = (r, done) := ⟨_, _, rfl⟩
      have hwk := applyF_walk hN.2 HQ.out ms0 HPL.out.1 hz0
      have HA33 := Hid.intro (slideApply_is (HT4.out.below HB10.out) hN (HX4.out.below HB10.out) hqlB HB9.out (HPL.out.below HB10.out) hz0 HVM.out (by omega))
      rw [hap] at hwk HA33
      obtain ⟨hwr, hwd, hws⟩ := hwk
      have hwd : done ≤ ms0.length := hwd
      have HWR := Hid.intro hwr
      have HWS := Hid.intro hws
      have HRP : Hid (Pos N r) := hwr.pos HPL.out.1
      clear hap hz0 hwr hws
      gi_wp2_with (gi_at_call 33; refine HA33.out.mono ?_; rintro e w11 ⟨⟨vr, rfl, hvr⟩, hB11⟩; have HVR := Hid.intro (PosList.moved hN HRP.out hvr); have HB11 := Hid.intro (HB10.out.trans (hB11.mono HB10.out.size)); clear hvr hB11; refine stop ?_)
      unfold Stop
      have HS34 : Hid (CallsIn Fence.wide 0 Tryd.prog 34 #[.int .i64 (N : Int), vp, vr] w11 fun e w' => e = .returned (.tuple #[.int .i64 (if done % 2 = 0 then 1 else -1), .int .i64 0]) ∧ Below w11.heap.size w11 w') := by
        have := ser34b (N := N) ((HPL.out.below HB11.out).ints hN.2) (HVR.out.ints hN.2) (PosList.isPos hN HPL.out.1) (PosList.isPos hN HRP.out) _ (Below.refl _ _)
        rw [sign_moves hN HPL.out.1 HRP.out HWS.out] at this
        exact this
      have HR28 : Hid (∀ w', Below w4.heap.size w4 w' → PosList w' vr N r → CallsIn Fence.wide 0 Tryd.prog 28 #[.int .i64 (N : Int), .slice ox (nats qs).length cx, vp, vr] w' fun e w'' => e = .returned (.tuple #[.bool true, .int .i64 0]) ∧ Below w'.heap.size w' w'') := fun w' hb hq => reach_is (HT4.out.below hb) hN (HX4.out.below hb) hqlB HB9.out (HPL.out.below hb) hq (b := true) ⟨fun _ => HWR.out, fun _ => rfl⟩
      have H16 := Hid.intro (ser16 HT4.out)
      rcases Nat.mod_two_eq_zero_or_one done with hpar | hpar
      all_goals
        have hmd : ((done : Int)).tmod 2 = ((done % 2 : Nat) : Int) := rfl
        rw [hpar] at hmd HS34
        clear hpar
        gi_wp2_with (gi_at_call 34; refine HS34.out.mono ?_; rintro e w12 ⟨rfl, hB12⟩; have HB12 := Hid.intro (HB11.out.trans (hB12.mono HB11.out.size)); have HVR12 := Hid.intro (HVR.out.below hB12); clear hB12; refine stop ?_)
        unfold Stop
        gi_wp2_with (first
          | (gi_at_call 28; refine (HR28.out _ HB12.out HVR12.out).mono ?_; rintro e w13 ⟨rfl, hB13⟩; have HB13 := Hid.intro (HB12.out.trans (hB13.mono HB12.out.size)); clear hB13)
          | (gi_at_call 16; refine (H16.out _ HB13.out).mono ?_; rintro e w14 ⟨rfl, hB14⟩; have HB14 := Hid.intro (HB13.out.trans (hB14.mono HB13.out.size)); clear hB14))
        all_goals (first | go_returns | go_ret | go_end0)
        exact ⟨rfl, HB04.out.trans (HB14.out.mono HB04.out.size)⟩
    · have hno : ∀ d, ¬ DistE (Mov (nats qs) N) zp d zq := fun d hd => hr ⟨d, hd⟩
      have HNO := Hid.intro hno
      have HS22 := Hid.intro (solve_no HT4.out hN HX4.out hqlB HB9.out HPL.out HQL.out hno)
      have HS22b : Hid (∀ w', Below w4.heap.size w4 w' → CallsIn Fence.wide 0 Tryd.prog 22 _ w' _) := fun w' hb => solve_no (HT4.out.below hb) hN (HX4.out.below hb) hqlB HB9.out (HQL.out.below hb) (HPL.out.below hb) fun d hd => HNO.out d (hd.symm fun a b => Mov.symm)
      clear hno hr
      gi_wp2_with (gi_at_call 22; refine HS22.out.mono ?_; rintro e w5 ⟨rfl, hB5⟩; have HB5 := Hid.intro hB5; clear hB5; refine stop ?_)
      unfold Stop
      gi_wp2_with (gi_at_call 22; refine (HS22b.out _ HB5.out).mono ?_; rintro e wz ⟨rfl, hB6⟩; have HBz := Hid.intro (HB5.out.trans (hB6.mono HB5.out.size)); clear hB6; refine stop ?_)
      unfold Stop
      gi_wp2_with (gi_at_call 23; refine (HC23.out _ HBz.out).mono ?_; rintro e w7 ⟨⟨cnt, most, last, hbf, rfl⟩, hB7⟩; have HBF := Hid.intro hbf; have HB7 := Hid.intro (HBz.out.trans (hB7.mono HBz.out.size)); clear hbf hB7; refine stop ?_)
      unfold Stop
      gi_wp2_with (gi_at_call 18; refine (HC18.out _ HB7.out).mono ?_; rintro e w8 ⟨⟨c', m', l', hbf', rfl⟩, hB8⟩; have HBF' := Hid.intro hbf'; obtain ⟨Z, hZ⟩ : ∃ Z, c' / N = Z := ⟨_, rfl⟩; rw [hZ]; have HB8 := Hid.intro (HB7.out.trans (hB8.mono HB7.out.size)); clear hbf' hB8; refine stop ?_)
      unfold Stop
      have hsm := bfs_small hN HBF.out HPL.out.1
      have hmul : wrap64 ((N : Int) * (Z : Int)) = (cnt : Int) := by
        have := bfs_mul hN HB9.out HPL.out.1 HBF.out HBF'.out
        rw [hZ] at this
        have h2 : (N : Int) * (Z : Int) = (cnt : Int) := by rw [← this]; exact (Int.natCast_mul N Z).symm
        rw [h2]
        unfold wrap64
        omega
      obtain ⟨hl1, hl2⟩ := bfs_last HBF.out
      skip
      have HC27 := Hid.intro (far_is (HT4.out.below HB8.out) hN (HX4.out.below HB8.out) hqlB HB9.out (HPL.out.below HB8.out) HBF.out)
      clear hZ
      gi_wp2_with (gi_at_call 27; refine HC27.out.mono ?_; rintro e w9 ⟨rfl, hB9⟩; have HB9' := Hid.intro (HB8.out.trans (hB9.mono HB8.out.size)); clear hB9; refine stop ?_)
      unfold Stop
      have f1 : w9.cell? ⟨w.heap.size, 1, none⟩ = some (.slice o2 ts.length c2) := (HB9'.out.cell (p := ⟨w.heap.size, 1, none⟩) hz4).trans d14
      have HL32 := Hid.intro (list_calls w9 _ ts 30 (by omega) (HT.out.below (HB04.out.trans (HB9'.out.mono HB04.out.size))))
      gi_wp2_with (gi_at_call 32; refine HL32.out.mono ?_; rintro e w10 ⟨vm, rfl, hvm, hB10⟩; have HVM := Hid.intro hvm; have HB10 := Hid.intro (HB9'.out.trans (hB10.mono HB9'.out.size)); clear hvm hB10; refine stop ?_)
      unfold Stop
      clear f1
      obtain ⟨ms0, hms0⟩ : ∃ m, ts.take 30 = m := ⟨_, rfl⟩
      have hml0 : ms0.length ≤ 30 := by rw [← hms0, List.length_take]; omega
      rw [hms0] at HVM
      clear hms0
      obtain ⟨om, cm, rfl⟩ := HVM.out.form
      obtain ⟨h0, hz0⟩ := HPL.out.1.ex_hole (by omega) (by omega)
      obtain ⟨r, done, hap⟩ : ∃ r done, applyF (nats qs) zp h0 ms0 = (r, done) := ⟨_, _, rfl⟩
      have hwk := applyF_walk hN.2 HQ.out ms0 HPL.out.1 hz0
      have HA33 := Hid.intro (slideApply_is (HT4.out.below HB10.out) hN (HX4.out.below HB10.out) hqlB HB9.out (HPL.out.below HB10.out) hz0 HVM.out (by omega))
      rw [hap] at hwk HA33
      obtain ⟨hwr, hwd, hws⟩ := hwk
      have hwd : done ≤ ms0.length := hwd
      have HWR := Hid.intro hwr
      have HWS := Hid.intro hws
      have HRP : Hid (Pos N r) := hwr.pos HPL.out.1
      clear hap hz0 hwr hws
      gi_wp2_with (gi_at_call 33; refine HA33.out.mono ?_; rintro e w11 ⟨⟨vr, rfl, hvr⟩, hB11⟩; have HVR := Hid.intro (PosList.moved hN HRP.out hvr); have HB11 := Hid.intro (HB10.out.trans (hB11.mono HB10.out.size)); clear hvr hB11; refine stop ?_)
      unfold Stop
      have HS34 : Hid (CallsIn Fence.wide 0 Tryd.prog 34 #[.int .i64 (N : Int), vp, vr] w11 fun e w' => e = .returned (.tuple #[.int .i64 (if done % 2 = 0 then 1 else -1), .int .i64 0]) ∧ Below w11.heap.size w11 w') := by
        have := ser34b (N := N) ((HPL.out.below HB11.out).ints hN.2) (HVR.out.ints hN.2) (PosList.isPos hN HPL.out.1) (PosList.isPos hN HRP.out) _ (Below.refl _ _)
        rw [sign_moves hN HPL.out.1 HRP.out HWS.out] at this
        exact this
      have HR28 : Hid (∀ w', Below w4.heap.size w4 w' → PosList w' vr N r → CallsIn Fence.wide 0 Tryd.prog 28 #[.int .i64 (N : Int), .slice ox (nats qs).length cx, vp, vr] w' fun e w'' => e = .returned (.tuple #[.bool true, .int .i64 0]) ∧ Below w'.heap.size w' w'') := fun w' hb hq => reach_is (HT4.out.below hb) hN (HX4.out.below hb) hqlB HB9.out (HPL.out.below hb) hq (b := true) ⟨fun _ => HWR.out, fun _ => rfl⟩
      have H16 := Hid.intro (ser16 HT4.out)
      rcases Nat.mod_two_eq_zero_or_one done with hpar | hpar
      all_goals
        have hmd : ((done : Int)).tmod 2 = ((done % 2 : Nat) : Int) := rfl
        rw [hpar] at hmd HS34
        clear hpar
        gi_wp2_with (gi_at_call 34; refine HS34.out.mono ?_; rintro e w12 ⟨rfl, hB12⟩; have HB12 := Hid.intro (HB11.out.trans (hB12.mono HB11.out.size)); have HVR12 := Hid.intro (HVR.out.below hB12); clear hB12; refine stop ?_)
        unfold Stop
        gi_wp2_with (first
          | (gi_at_call 28; refine (HR28.out _ HB12.out HVR12.out).mono ?_; rintro e w13 ⟨rfl, hB13⟩; have HB13 := Hid.intro (HB12.out.trans (hB13.mono HB12.out.size)); clear hB13)
          | (gi_at_call 16; refine (H16.out _ HB13.out).mono ?_; rintro e w14 ⟨rfl, hB14⟩; have HB14 := Hid.intro (HB13.out.trans (hB14.mono HB13.out.size)); clear hB14))
        all_goals (first | go_returns | go_ret | go_end0)
        exact ⟨rfl, HB04.out.trans (HB14.out.mono HB04.out.size)⟩
end Go.Eng
