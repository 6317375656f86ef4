/-
  The law SlideSolves.
  Conditions: none.
-/
import Derived.Test.YtjcmalmcijpnnaaDoorSolY
import Derived.Test.YtjcmalmcijpnnaaDoorFarX
import Derived.Test.YtjcmalmcijpnnaaDoorChkX
import Derived.Test.YtjcmalmcijpnnaaDoorChkW
import Derived.Test.YtjcmalmcijpnnaaDoorBrdH
namespace Go.Eng
open Go.RowKit Go.Proofs Go.Proofs.YtjcmalmcijpnnaaDoor

section
variable {w : World} {N : Nat} {v : Value} {ps : List (Int × Int)} {vp vq : Value} {zp zq : Nat → Int}
theorem solve_yes (hT : TabsIn w) (hN : 2 ≤ N ∧ N ≤ 9) (hv : PairsAt w v ps) (hl : ps.length ≤ 1000) (hb : IsBoard N ps) (hp : PosList w vp N zp) (hq : PosList w vq N zq) {d : Nat} (hd : DistE (Mov (nats ps) N) zp d zq) :
    CallsIn Fence.wide 0 Tryd.prog 22 #[.int .i64 (N : Int), v, vp, vq] w fun e w' => (∃ o c ms, e = .returned (.tuple #[.slice o d c, .bool true, .int .i64 0]) ∧ ms.length = d ∧ IntsAt w' (.slice o d c) ms ∧ PathM (nats ps) N zp ms zq) ∧ Below w.heap.size w w' := by
  have h := slideSolve_calls w hT N hN v ps hv hl hb vp _ (hp.ints hN.2) (PosList.isPos hN hp.1) vq _ (hq.ints hN.2) (PosList.isPos hN hq.1)
  rw [posFun hp.1, posFun hq.1] at h
  refine h.mono ?_
  rintro e w' ⟨⟨vo, ms, rfl, hi, hpm, hd2⟩ | ⟨hno, _⟩, hB⟩
  · have e := hd2.unique hd
    obtain ⟨o, c, rfl⟩ := hi.form
    rw [e] at hi ⊢
    exact ⟨⟨o, c, ms, rfl, e, hi, hpm⟩, hB⟩
  · exact absurd hd (hno d)
theorem solve_no (hT : TabsIn w) (hN : 2 ≤ N ∧ N ≤ 9) (hv : PairsAt w v ps) (hl : ps.length ≤ 1000) (hb : IsBoard N ps) (hp : PosList w vp N zp) (hq : PosList w vq N zq) (hd : ∀ d, ¬ DistE (Mov (nats ps) N) zp d zq) :
    CallsIn Fence.wide 0 Tryd.prog 22 #[.int .i64 (N : Int), v, vp, vq] w fun e w' => e = .returned (.tuple #[.slice none 0 0, .bool false, .int .i64 0]) ∧ Below w.heap.size w w' := by
  have h := slideSolve_calls w hT N hN v ps hv hl hb vp _ (hp.ints hN.2) (PosList.isPos hN hp.1) vq _ (hq.ints hN.2) (PosList.isPos hN hq.1)
  rw [posFun hp.1, posFun hq.1] at h
  refine h.mono ?_
  rintro e w' ⟨⟨vo, ms, rfl, hi, hpm, hd2⟩ | ⟨hno, rfl⟩, hB⟩
  · exact absurd hd2 (hd _)
  · exact ⟨rfl, hB⟩
theorem reach_is (hT : TabsIn w) (hN : 2 ≤ N ∧ N ≤ 9) (hv : PairsAt w v ps) (hl : ps.length ≤ 1000) (hb : IsBoard N ps) (hp : PosList w vp N zp) (hq : PosList w vq N zq) {b : Bool} (hd : b = true ↔ ∃ d, DistE (Mov (nats ps) N) zp d zq) :
    CallsIn Fence.wide 0 Tryd.prog 28 #[.int .i64 (N : Int), v, vp, vq] w fun e w' => e = .returned (.tuple #[.bool b, .int .i64 0]) ∧ Below w.heap.size w w' := by
  have h := reaches_calls w hT N hN v ps hv hl hb vp _ (hp.ints hN.2) (PosList.isPos hN hp.1) vq _ (hq.ints hN.2) (PosList.isPos hN hq.1)
  rw [posFun hp.1, posFun hq.1] at h
  refine h.mono ?_
  rintro e w' ⟨⟨hy, rfl⟩ | ⟨hno, rfl⟩, hB⟩
  · rw [hd.2 hy]; exact ⟨rfl, hB⟩
  · have : b = false := by
      cases b with
      | false => rfl
      | true => obtain ⟨d, h⟩ := hd.1 rfl; exact absurd h (hno d)
    rw [this]; exact ⟨rfl, hB⟩
theorem count_is (hT : TabsIn w) (hN : 2 ≤ N ∧ N ≤ 9) (hv : PairsAt w v ps) (hl : ps.length ≤ 1000) (hb : IsBoard N ps) (hp : PosList w vp N zp) {cnt most last : Nat} (h : Bfs (Mov (nats ps) N) zp cnt most last) :
    CallsIn Fence.wide 0 Tryd.prog 23 #[.int .i64 (N : Int), v, vp] w fun e w' => e = .returned (.tuple #[.int .i64 ((cnt : Nat) : Int), .int .i64 0]) ∧ Below w.heap.size w w' := by
  have h1 := count_calls w hT N hN v ps hv hl hb vp _ (hp.ints hN.2) (PosList.isPos hN hp.1)
  rw [posFun hp.1] at h1
  refine h1.mono ?_
  rintro e w' ⟨⟨a, b, c, hb, rfl⟩, hB⟩
  rw [(hb.unique h).1]; exact ⟨rfl, hB⟩
theorem far_is (hT : TabsIn w) (hN : 2 ≤ N ∧ N ≤ 9) (hv : PairsAt w v ps) (hl : ps.length ≤ 1000) (hb : IsBoard N ps) (hp : PosList w vp N zp) {cnt most last : Nat} (h : Bfs (Mov (nats ps) N) zp cnt most last) :
    CallsIn Fence.wide 0 Tryd.prog 27 #[.int .i64 (N : Int), v, vp] w fun e w' => e = .returned (.tuple #[.int .i64 ((most : Nat) : Int), .int .i64 ((last : Nat) : Int), .int .i64 0]) ∧ Below w.heap.size w w' := by
  have h1 := farthest_calls w hT N hN v ps hv hl hb vp _ (hp.ints hN.2) (PosList.isPos hN hp.1)
  rw [posFun hp.1] at h1
  refine h1.mono ?_
  rintro e w' ⟨⟨a, b, c, hb, rfl⟩, hB⟩
  rw [(hb.unique h).2.1, (hb.unique h).2.2]; exact ⟨rfl, hB⟩
theorem far_said (hN : 2 ≤ N ∧ N ≤ 9) {ox : Option Addr} {cx : Nat} {qs : List (Nat × Nat)} (hed : EdgesAt w ox qs) (hql : qs.length ≤ 1000) (hq : ∀ q ∈ qs, q.1 < q.2 ∧ q.2 < N) (hp : PosList w vp N zp) :
    CallsIn Fence.wide 0 Tryd.prog 21 #[.int .i64 (N : Int), .slice ox qs.length cx, vp] w fun e w' => FarSaid w qs N zp e w' ∧ Below w.heap.size w w' := by
  obtain ⟨hpp, a, cap, rfl, h2, h3, h4⟩ := hp
  exact farther_calls w N hN ox cx qs hed hql hq a cap h3 h2 zp hpp h4
theorem steps_is (hN : 2 ≤ N ∧ N ≤ 9) {gs F : Nat} {cnt most last : Int} {st : Nat → Int} (hS : ArrAt w gs F fun i => .int .i64 (st i)) (hF : prodF N N = F) (hq : PosList w vq N zq) {k : Int} (hk : st (rankF zq N N) = k) :
    CallsIn Fence.wide 0 Tryd.prog 24 #[.agg #[.slice (some ⟨gs, 0, none⟩) F F, .int .i64 cnt, .int .i64 most, .int .i64 last], vq] w fun e w' => e = .returned (.int .i64 k) ∧ Below w.heap.size w w' := by
  obtain ⟨hpp, a, cap, rfl, h2, h3, h4⟩ := hq
  have := steps_calls w gs F N hN.2 cnt most last st hS hF (by rw [← hF]; exact prodF_le hN.2) a cap zq h3 h4
  rw [hk] at this
  exact this
theorem apply_is (hN : 2 ≤ N ∧ N ≤ 9) {ox : Option Addr} {cx : Nat} {qs : List (Nat × Nat)} (hed : EdgesAt w ox qs) (hql : qs.length ≤ 1000) (hq : ∀ q ∈ qs, q.1 < q.2 ∧ q.2 < N) (hp : PosList w vp N zp) {vm : Value} {ms : List Int} {d : Nat} (hm : IntsAt w vm ms) (hml : ms.length = d) (hd : d ≤ 362880) (hpm : PathM qs N zp ms zq) :
    CallsIn Fence.wide 0 Tryd.prog 25 #[.int .i64 (N : Int), .slice ox qs.length cx, vp, vm] w fun e w' => (∃ v', e = .returned (.tuple #[v', .int .i64 (d : Int)]) ∧ IntsAt w' v' ((List.range N).map zq)) ∧ Below w.heap.size w w' := by
  obtain ⟨hpp, a, cap, rfl, h2, h3, h4⟩ := hp
  obtain ⟨h0, hz⟩ := hpp.ex_hole (by omega) (by omega)
  have := refApply_big w N hN ox cx qs hed hql hq a cap h3 h2 zp h0 h4 hz vm ms hm (by omega)
  rw [PathM.applied hq hz hpm, hml] at this
  exact this
theorem hole_is (hN : 2 ≤ N ∧ N ≤ 9) (hq : PosList w vq N zq) {h : Nat} (hz : PosZ zq N h) : CallsIn Fence.wide 0 Tryd.prog 30 #[vq] w fun e w' => e = .returned (.int .i64 (h : Int)) ∧ w = w' := by
  obtain ⟨hpp, a, cap, rfl, h2, h3, h4⟩ := hq
  exact refHole_calls w a N cap (by omega) zq h4 h hz.lt hz.zero hz.hole.first
theorem moved_is (hN : 2 ≤ N ∧ N ≤ 9) (hq : PosList w vq N zq) {h t : Nat} (hz : PosZ zq N h) (ht : t < N) : CallsIn Fence.wide 0 Tryd.prog 31 #[vq, .int .i64 (t : Int)] w fun e w' => (∃ v', e = .returned v' ∧ PosList w' v' N (swapAt zq h t)) ∧ Below w.heap.size w w' := by
  obtain ⟨hpp, a, cap, rfl, h2, h3, h4⟩ := hq
  refine (refMoved_calls w a N cap hN h3 zq h4 h hz.hole t ht).mono ?_
  rintro e w' ⟨v', rfl, hi, hB⟩
  exact ⟨⟨v', rfl, PosList.moved hN (hpp.swap hz.lt ht) hi⟩, hB⟩
end

set_option maxRecDepth 100000 in
set_option maxHeartbeats 16000000 in
/-- **The law SlideSolves.** -/
theorem solves_calls {w : World} (hw : TabsIn w) (n : Int) (v u t : Value) (ps : List (Int × Int)) (us ts : List Int) (hv : PairsAt w v ps) (hu : IntsAt w u us) (ht : IntsAt w t ts) :
    CallsIn Fence.wide 0 Tryd.prog 6 #[.int .i64 n, v, .agg #[u, t]] w fun e w' => e = .returned (.bool true) ∧ Below w.heap.size w w' := by
  obtain ⟨o1, c1, rfl⟩ := hu.form
  obtain ⟨o2, c2, rfl⟩ := ht.form
  have HW := Hid.intro hw
  have HV := Hid.intro hv
  have HU := Hid.intro hu
  have HT := Hid.intro ht
  clear hw hv hu ht
  refine callsIn_of_wp Tryd.func6 rfl trivial ?_ rfl
  simp only [Tryd.ntmps6, List.size_toArray, List.length_cons, List.length_nil, Nat.reduceAdd, Nat.reduceSub, Array.replicate_succ, Array.replicate_zero, List.push_toArray, List.append_toArray, List.nil_append, List.cons_append]
  gi_wp2_with (gi_at_call 17; refine stop ?_)
  unfold Stop
  obtain ⟨W1, hW1⟩ : ∃ W1, W1 = w.alloc (.cells #[.slice o1 us.length c1, .slice o2 ts.length c2] 39) := ⟨_, rfl⟩
  rw [← hW1]
  have hB1 : Below w.heap.size w W1 := by rw [hW1]; exact (Below.refl _ _).alloc (Nat.le_refl _) _
  have hz1 : w.heap.size < W1.heap.size := by rw [hW1]; simp
  have hc0 : W1.cell? ⟨w.heap.size, 0, none⟩ = some (.slice o1 us.length c1) := by rw [hW1]; exact World.cell?_alloc_new _ _ _ _
  have hc1 : W1.cell? ⟨w.heap.size, 1, none⟩ = some (.slice o2 ts.length c2) := by rw [hW1]; exact World.cell?_alloc_new _ _ _ _
  refine (tame_walk W1 n v ps (HV.out.below hB1) 7 (by omega)).mono ?_
  rintro e w2 ⟨N, x, qs, hN7, rfl, hx, hql, hb, hB2⟩
  have hN : 2 ≤ N ∧ N ≤ 9 := by omega
  have hx5 := hx
  rw [← ints_nats hb.1] at hx5
  obtain ⟨ox, cx, rfl, hed⟩ := hx5.edges
  have d0 := (hB2.cell (p := ⟨w.heap.size, 0, none⟩) hz1).trans hc0
  have d1 := (hB2.cell (p := ⟨w.heap.size, 1, none⟩) hz1).trans hc1
  have hB12 := hB1.trans (hB2.mono hB1.size)
  have HB := Hid.intro hB12
  have HO0 : Hid (∀ w', Below w2.heap.size w2 w' → CallsIn Fence.wide 0 Tryd.prog 20 #[.int .i64 (N : Int), .slice o1 us.length c1] w' fun e w'' => ∃ (v' : Value) (zs : List Int), e = .returned v' ∧ IntsAt w'' v' zs ∧ IsPos (N : Int) zs ∧ Below w'.heap.size w' w'') :=
    fun w' hw => order_walk w' N hN _ us ((HU.out.below hB12).below hw)
  have HO1 : Hid (∀ w', Below w2.heap.size w2 w' → CallsIn Fence.wide 0 Tryd.prog 20 #[.int .i64 (N : Int), .slice o2 ts.length c2] w' fun e w'' => ∃ (v' : Value) (zs : List Int), e = .returned v' ∧ IntsAt w'' v' zs ∧ IsPos (N : Int) zs ∧ Below w'.heap.size w' w'') :=
    fun w' hw => order_walk w' N hN _ ts ((HT.out.below hB12).below hw)
  have HBk : Hid (Below w2.heap.size w2 w2) := Below.refl _ _
  have HX := Hid.intro hx
  have HED := Hid.intro hed
  have HB9 := Hid.intro hb
  have hz2 : w.heap.size < w2.heap.size := Nat.lt_of_lt_of_le hz1 hB2.size
  have hd1 := d1
  clear hW1 hB1 hz1 hc0 hc1 hB2 hB12 hx hb hed hx5
  gi_wp2
  refine region_rel (fun a' w' => ∃ vp vq zp zq, a' = { tmps := #[.int .i64 (N : Int), v, .agg #[.slice o1 us.length c1, .slice o2 ts.length c2], undef, undef, .pointer (some ⟨w.heap.size, 0, none⟩), .bool false, .slice ox (nats qs).length cx, vp, vq, undef, undef, undef, undef, undef, undef, undef, undef, undef, undef, undef, undef, undef, undef, undef, undef, undef, .tuple #[.int .i64 (N : Int), .slice ox (nats qs).length cx], .int .i64 n, v, .tuple #[.int .i64 (N : Int), .slice ox (nats qs).length cx], .int .i64 (N : Int), .slice ox (nats qs).length cx, .int .i64 (N : Int), .pointer (some ⟨w.heap.size, 0, none⟩), .slice o1 us.length c1, vp, .int .i64 (N : Int), .pointer (some ⟨w.heap.size, 1, none⟩), .slice o2 ts.length c2, vq, undef, undef, undef, undef, undef, undef, undef, undef, undef, undef, undef, undef, undef, undef, undef, undef, undef, undef, undef, undef, undef, undef, undef, undef, undef, undef, undef, undef, undef, undef, undef, undef, undef, undef, undef, undef, undef, undef, undef, undef, undef, undef, undef, undef, undef, undef, undef, undef, undef, undef, undef, undef, undef, undef, undef, undef, undef, undef, undef, undef, undef, undef, undef, undef, undef, undef, undef, undef, undef, undef, undef, undef, undef, undef, undef, undef, undef, undef, undef, undef, undef, undef, undef, undef, undef, undef, undef, undef, undef, undef, undef, undef, undef, undef, undef, undef, undef, undef, undef, undef, undef, undef, undef, undef, undef, undef, undef, undef, undef, undef, undef, undef, undef, undef, undef, undef, undef, undef, undef, undef, undef, undef, undef, undef, undef, undef, undef, undef, undef, undef, undef, undef, undef, undef, undef, undef, undef, undef, undef, undef, undef, undef, undef, undef, undef, undef, undef, undef], defers := [] } ∧ PosList w' vp N zp ∧ PosList w' vq N zq ∧ Below w2.heap.size w2 w') ?rest ?reg
  case reg =>
    gi_region_with (first
      | (gi_at_call 20; refine (HO0.out w2.drew HBk.out.drew).mono ?_; rintro e w3 ⟨p, P, rfl, hp, hP, hB⟩; have HPp := Hid.intro hp; have HPP := Hid.intro hP; have HBk := Hid.intro (HBk.out.drew.trans (hB.mono HBk.out.drew.size)); have d1 := (hB.cell (p := ⟨w.heap.size, 1, none⟩) hz2).trans d1; clear hp hP hB)
      | (gi_at_call 20; refine (HO1.out w3 HBk.out).mono ?_; rintro e w4 ⟨q, Q, rfl, hq, hQ, hB⟩; have HQq := Hid.intro (And.intro hq hB); have HQQ := Hid.intro hQ; have HBk := Hid.intro (HBk.out.trans (hB.mono HBk.out.size)); clear hq hQ hB))
    all_goals exact ⟨_, _, _, _, rfl, PosList.of hN (HPp.out.below HQq.out.2) HPP.out, PosList.of hN HQq.out.1 HQQ.out, HBk.out⟩
  case rest =>
    rintro a' w4 ⟨vp, vq, zp, zq0, rfl, hpl, hql0, hB4⟩
    dsimp only
    have HPL := Hid.intro hpl
    have HQL := Hid.intro hql0
    have HB4 := Hid.intro hB4
    have HQ := Hid.intro (nats_mem HB9.out.1)
    have hnl : (nats qs).length ≤ 1000 := by rw [nats_len]; omega
    have HFar := Hid.intro (far_said (cx := cx) hN (HED.out.below hB4) hnl HQ.out hpl)
    have d14 := (hB4.cell (p := ⟨w.heap.size, 1, none⟩) hz2).trans hd1
    have hz4 : w.heap.size < w4.heap.size := Nat.lt_of_lt_of_le hz2 hB4.size
    clear d0 d1 hd1 HO0 HO1 HBk hpl hql0 hB4
    gi_wp2_with (gi_at_call 21; refine HFar.out.mono ?_; rintro e w5 ⟨⟨gs, cnt, most, last, st, rfl, hgs, hA, hE⟩, hB5⟩; have HA := Hid.intro hA; have HE := Hid.intro hE; have HB5 := Hid.intro hB5; clear hA hE hB5; refine stop ?_)
    unfold Stop
    obtain ⟨F, hF⟩ : ∃ F, prodF N N = F := ⟨_, rfl⟩
    have HF := Hid.intro hF
    rw [hF]
    rw [hF] at HA
    clear hF
    have hFp : 0 < F := by have := rankF_lt (z := zp) (Nat.le_refl N); have := HF.out; omega
    have hgl5 := HA.out.lt hFp
    have HA6 : Hid (ArrAt (w5.alloc (.cells #[.slice (some ⟨gs, 0, none⟩) F F, .int .i64 (cnt : Int), .int .i64 (most : Int), .int .i64 (last : Int)] 42)) gs F fun i => .int .i64 (st i)) := HA.out.alloc hgl5 _
    have HFC : Hid (ArrAt (w5.alloc (.cells #[.slice (some ⟨gs, 0, none⟩) F F, .int .i64 (cnt : Int), .int .i64 (most : Int), .int .i64 (last : Int)] 42)) w5.heap.size 4 (farC gs F cnt most last)) := farC_new w5 gs F cnt most last 42
    have HB46 : Hid (Below w4.heap.size w4 (w5.alloc (.cells #[.slice (some ⟨gs, 0, none⟩) F F, .int .i64 (cnt : Int), .int .i64 (most : Int), .int .i64 (last : Int)] 42))) := HB5.out.alloc HB5.out.size _
    obtain ⟨W6, hW6⟩ : ∃ W6, W6 = w5.alloc (.cells #[.slice (some ⟨gs, 0, none⟩) F F, .int .i64 (cnt : Int), .int .i64 (most : Int), .int .i64 (last : Int)] 42) := ⟨_, rfl⟩
    have hs6 : w5.heap.size < W6.heap.size := by rw [hW6]; simp
    rw [← hW6] at HA6 HFC HB46
    have HW6 := Hid.intro hW6
    clear hW6 HA HB5 HFar
    have HB06 : Hid (Below w.heap.size w W6) := HB.out.trans ((HB4.out.trans (HB46.out.mono HB4.out.size)).mono HB.out.size)
    have HP6 := Hid.intro (HPL.out.below HB46.out)
    have HQ6 := Hid.intro (HQL.out.below HB46.out)
    have HX6 := Hid.intro (HX.out.below (HB4.out.trans (HB46.out.mono HB4.out.size)))
    have HED6 := Hid.intro (HED.out.below (HB4.out.trans (HB46.out.mono HB4.out.size)))
    have HT6 := Hid.intro (HW.out.below HB06.out)
    have hql6 : qs.length ≤ 1000 := by omega
    have hsm := HE.out.small
    have hd16 : W6.cell? ⟨w.heap.size, 1, none⟩ = some (.slice o2 ts.length c2) := (HB46.out.cell (p := ⟨w.heap.size, 1, none⟩) hz4).trans d14
    have HC23 := Hid.intro (count_is HT6.out hN HX6.out hql6 HB9.out HP6.out HE.out.bfs)
    have HC27 : Hid (∀ w', Below W6.heap.size W6 w' → CallsIn Fence.wide 0 Tryd.prog 27 _ w' _) := fun w' hb => far_is (HT6.out.below hb) hN (HX6.out.below hb) hql6 HB9.out (HP6.out.below hb) HE.out.bfs
    have hzw6 : w.heap.size < W6.heap.size := Nat.lt_of_lt_of_le hz4 HB46.out.size
    clear d14
    gi_wp2_with (rw [← HW6.out]; gi_at_call 23; refine HC23.out.mono ?_; rintro e w7 ⟨rfl, hB7⟩; have HB7 := Hid.intro hB7; clear hB7; refine stop ?_)
    unfold Stop
    gi_wp2_with (gi_at_call 27; refine (HC27.out _ HB7.out).mono ?_; rintro e w8 ⟨rfl, hB8⟩; have HB8 := Hid.intro (HB7.out.trans (hB8.mono HB7.out.size)); clear hB8; refine stop ?_)
    unfold Stop
    have hA8 := HFC.out.below hs6 HB8.out
    have f1 : w8.cell? ⟨w5.heap.size, 1, none⟩ = some (.int .i64 (cnt : Int)) := (hA8 1 (by omega)).1
    have f2 : w8.cell? ⟨w5.heap.size, 2, none⟩ = some (.int .i64 (most : Int)) := (hA8 2 (by omega)).1
    have f3 : w8.cell? ⟨w5.heap.size, 3, none⟩ = some (.int .i64 (last : Int)) := (hA8 3 (by omega)).1
    clear hA8
    gi_wp2
    gi_loopw [16, 9] (fun r v9 wr => ∃ (k : Nat) (zq : Nat → Int), k ≤ 2 ∧ r = .int .i64 (k : Int) ∧ Hid (PosList wr v9 N zq) ∧ Hid (Below W6.heap.size W6 wr)) (fun r _ _ => 2 - (intOf r).toNat)
    case atStart => exact ⟨0, zq0, by omega, rfl, HQ6.out.below HB8.out, HB8.out⟩
    case round =>
      obtain ⟨k, zq, hk, rfl, HQr, HBr⟩ := hrel
      clear f1 f2 f3 HB7 HB8
      have HTr := Hid.intro (HT6.out.below HBr.out)
      by_cases hk2 : k < 2
      · have HPr := Hid.intro (HP6.out.below HBr.out)
        have HAr := HFC.out.below hs6 HBr.out
        have f0 : wr.cell? ⟨w5.heap.size, 0, none⟩ = some (.slice (some ⟨gs, 0, none⟩) F F) := (HAr 0 (by omega)).1
        have hgs6 := HA6.out.lt hFp
        by_cases hr : ∃ d, DistE (Mov (nats qs) N) zp d zq
        case' pos =>
          obtain ⟨d, hd⟩ := hr
          have HD := Hid.intro hd
          have hst := HE.out.yes zq d HQr.out.1 hd
          have hdm := HE.out.bfs.top d zq hd
          have HS22 := Hid.intro (solve_yes HTr.out hN (HX6.out.below HBr.out) hql6 HB9.out HPr.out HQr.out hd)
          have HS28 : Hid (∀ w', Below W6.heap.size W6 w' → PosList w' u9 N zq → CallsIn Fence.wide 0 Tryd.prog 28 _ w' fun e w'' => e = .returned (.tuple #[.bool true, .int .i64 0]) ∧ Below w'.heap.size w' w'') := fun w' hb hq => reach_is (HT6.out.below hb) hN (HX6.out.below hb) hql6 HB9.out (HP6.out.below hb) hq (b := true) ⟨fun _ => ⟨d, HD.out⟩, fun _ => rfl⟩
          have HS24 : Hid (∀ w', Below W6.heap.size W6 w' → PosList w' u9 N zq → CallsIn Fence.wide 0 Tryd.prog 24 #[.agg #[.slice (some ⟨gs, 0, none⟩) F F, .int .i64 (cnt : Int), .int .i64 (most : Int), .int .i64 (last : Int)], u9] w' fun e w'' => e = .returned (.int .i64 (d : Int)) ∧ Below w'.heap.size w' w'') := fun w' hb hq => steps_is hN (HA6.out.below hgs6 hb) HF.out hq hst
          clear hd
          gi_wp2_with (gi_at_call 22; refine HS22.out.mono ?_; rintro e w9 ⟨⟨o9, c9, ms, rfl, hml, hmi, hmp⟩, hB9⟩; have HML := Hid.intro hml; have HMI := Hid.intro hmi; have HMP := Hid.intro hmp; have HB9r := Hid.intro (HBr.out.trans (hB9.mono HBr.out.size)); have HQ9 := Hid.intro (HQr.out.below hB9); clear hml hmi hmp hB9; refine stop ?_)
          unfold Stop
          gi_wp2_with (gi_at_call 28; refine (HS28.out _ HB9r.out HQ9.out).mono ?_; rintro e w10 ⟨rfl, hB10⟩; have HB10 := Hid.intro (HB9r.out.trans (hB10.mono HB9r.out.size)); have HQ10 := Hid.intro (HQ9.out.below hB10); have HMI10 := Hid.intro (HMI.out.below hB10); clear hB10; refine stop ?_)
          unfold Stop
          have hA10 := HFC.out.below hs6 HB10.out
          have f0 : w10.cell? ⟨w5.heap.size, 0, none⟩ = some (.slice (some ⟨gs, 0, none⟩) F F) := (hA10 0 (by omega)).1
          have f1 : w10.cell? ⟨w5.heap.size, 1, none⟩ = some (.int .i64 (cnt : Int)) := (hA10 1 (by omega)).1
          have f2 : w10.cell? ⟨w5.heap.size, 2, none⟩ = some (.int .i64 (most : Int)) := (hA10 2 (by omega)).1
          have f3 : w10.cell? ⟨w5.heap.size, 3, none⟩ = some (.int .i64 (last : Int)) := (hA10 3 (by omega)).1
          clear hA10
          gi_wp2_with (gi_at_call 24; refine (HS24.out _ HB10.out HQ10.out).mono ?_; rintro e w11 ⟨rfl, hB11⟩; have HB11 := Hid.intro (HB10.out.trans (hB11.mono HB10.out.size)); have HQ11 := Hid.intro (HQ10.out.below hB11); have HMI11 := Hid.intro (HMI10.out.below hB11); clear hB11; refine stop ?_)
          unfold Stop
          have HS25 := Hid.intro (apply_is (cx := cx) hN (HED6.out.below HB11.out) hnl HQ.out (HP6.out.below HB11.out) HMI11.out HML.out (by omega) HMP.out)
          gi_wp2_with (first
            | (gi_at_call 25; refine HS25.out.mono ?_; rintro e w12 ⟨⟨va, rfl, hva⟩, hB12⟩; have HVA := Hid.intro hva; have HB12 := Hid.intro (HB11.out.trans (hB12.mono HB11.out.size)); have HQ12 := Hid.intro (HQ11.out.below hB12); clear hva hB12)
            | (gi_at_call 26; refine (ints_calls _ _ _ _ HVA.out (HQ12.out.ints hN.2) (by simp; omega)).mono ?_; rintro e w13 ⟨rfl, hB13⟩; have HB13 := Hid.intro (HB12.out.trans (hB13.mono HB12.out.size)); clear hB13))
          obtain ⟨wz, hwz⟩ : ∃ x, x = w13 := ⟨_, rfl⟩
          subst hwz
          have HBz := HB13
          clear f0 f1 f2 f3 HB9r HB10 HB11 HB12 HB13 HS22 HS25 HQ9 HQ10 HQ11 HQ12 HMI HMI10 HMI11 HVA
        case' neg =>
          have hno : ∀ d, ¬ DistE (Mov (nats qs) N) zp d zq := fun d hd => hr ⟨d, hd⟩
          have HNO := Hid.intro hno
          have hst := HE.out.no zq HQr.out.1 hno
          have HS22 := Hid.intro (solve_no HTr.out hN (HX6.out.below HBr.out) hql6 HB9.out HPr.out HQr.out hno)
          have HS28 : Hid (∀ w', Below W6.heap.size W6 w' → PosList w' u9 N zq → CallsIn Fence.wide 0 Tryd.prog 28 _ w' fun e w'' => e = .returned (.tuple #[.bool false, .int .i64 0]) ∧ Below w'.heap.size w' w'') := fun w' hb hq => reach_is (HT6.out.below hb) hN (HX6.out.below hb) hql6 HB9.out (HP6.out.below hb) hq (b := false) ⟨fun h => (by cases h), fun ⟨d, h⟩ => absurd h (HNO.out d)⟩
          have HS24 : Hid (∀ w', Below W6.heap.size W6 w' → PosList w' u9 N zq → CallsIn Fence.wide 0 Tryd.prog 24 #[.agg #[.slice (some ⟨gs, 0, none⟩) F F, .int .i64 (cnt : Int), .int .i64 (most : Int), .int .i64 (last : Int)], u9] w' fun e w'' => e = .returned (.int .i64 (-1)) ∧ Below w'.heap.size w' w'') := fun w' hb hq => steps_is hN (HA6.out.below hgs6 hb) HF.out hq hst
          clear hno hr
          gi_wp2_with (gi_at_call 22; refine HS22.out.mono ?_; rintro e w9 ⟨rfl, hB9⟩; have HB9r := Hid.intro (HBr.out.trans (hB9.mono HBr.out.size)); have HQ9 := Hid.intro (HQr.out.below hB9); clear hB9; refine stop ?_)
          unfold Stop
          gi_wp2_with (gi_at_call 28; refine (HS28.out _ HB9r.out HQ9.out).mono ?_; rintro e w10 ⟨rfl, hB10⟩; have HB10 := Hid.intro (HB9r.out.trans (hB10.mono HB9r.out.size)); have HQ10 := Hid.intro (HQ9.out.below hB10); clear hB10; refine stop ?_)
          unfold Stop
          have hA10 := HFC.out.below hs6 HB10.out
          have f0 : w10.cell? ⟨w5.heap.size, 0, none⟩ = some (.slice (some ⟨gs, 0, none⟩) F F) := (hA10 0 (by omega)).1
          have f1 : w10.cell? ⟨w5.heap.size, 1, none⟩ = some (.int .i64 (cnt : Int)) := (hA10 1 (by omega)).1
          have f2 : w10.cell? ⟨w5.heap.size, 2, none⟩ = some (.int .i64 (most : Int)) := (hA10 2 (by omega)).1
          have f3 : w10.cell? ⟨w5.heap.size, 3, none⟩ = some (.int .i64 (last : Int)) := (hA10 3 (by omega)).1
          clear hA10
          gi_wp2_with (gi_at_call 24; refine (HS24.out _ HB10.out HQ10.out).mono ?_; rintro e wz ⟨rfl, hB11⟩; have HBz := Hid.intro (HB10.out.trans (hB11.mono HB10.out.size)); clear hB11)
          clear f0 f1 f2 f3 HB9r HB10 HS22 HS28 HS24 HQ9 HQ10
        all_goals
          gi_loopw [25, 9] (fun i v9 wi => ∃ (j : Nat) (z : Nat → Int), j ≤ 30 ∧ i = .int .i64 (j : Int) ∧ Hid (PosList wi v9 N z) ∧ Hid (Below W6.heap.size W6 wi)) (fun i _ _ => 31 - (intOf i).toNat)
          case atStart => exact ⟨0, zp, by omega, rfl, HP6.out.below HBz.out, HBz⟩
          case round =>
            obtain ⟨j, z, hj, rfl, HZl, HBi⟩ := hrel
            have g1 : wr.cell? ⟨w.heap.size, 1, none⟩ = some (.slice o2 ts.length c2) := (HBi.out.cell (p := ⟨w.heap.size, 1, none⟩) hzw6).trans hd16
            by_cases hj1 : j < ts.length
            · by_cases hj2 : j < 30
              · obtain ⟨om, cm, hom, hmc⟩ := HT.out.cellsAt
                injection hom with hom _ hcm
                subst hom
                subst hcm
                obtain ⟨am, rfl, ham, hmc⟩ := hmc (by omega)
                have g0 := ((HB06.out.trans (HBi.out.mono HB06.out.size)).cell (p := am.add j) (by rw [add_block]; exact ham)).trans (hmc j hj1)
                obtain ⟨x, hx⟩ : ∃ x, ts.getD j 0 = x := ⟨_, rfl⟩
                rw [hx] at g0
                obtain ⟨A, hA, hAe⟩ := below_of x N (by omega) (by omega)
                obtain ⟨h, hzh⟩ := HZl.out.1.ex_hole (by omega) (by omega)
                have HH := Hid.intro hzh
                have HHo := Hid.intro (hole_is hN HZl.out hzh)
                have HNr := Hid.intro (near_calls wr ox cx (nats qs) (HED6.out.below HBi.out) hnl h A)
                have HMv := Hid.intro (moved_is hN HZl.out hzh hA)
                clear hzh hmc hx
                cases hnb : nearB (nats qs) (h : Int) (A : Int) with
                | true =>
                  rw [hnb] at HNr
                  gi_wp2_with (first
                    | (gi_at_call 30; refine HHo.out.mono ?_; rintro e w14 ⟨rfl, rfl⟩)
                    | (gi_at_call 29; refine HNr.out.mono ?_; rintro e w15 ⟨rfl, rfl⟩)
                    | (gi_at_call 31; refine HMv.out.mono ?_; rintro e w16 ⟨⟨vm, rfl, hvm⟩, hB16⟩; have HVM := Hid.intro hvm; have HB16 := Hid.intro (HBi.out.trans (hB16.mono HBi.out.size)); clear hvm hB16))
                  exact ⟨⟨j + 1, swapAt z h A, by omega, by go_num, HVM, HB16⟩, by simp [intOf]; omega⟩
                | false =>
                  rw [hnb] at HNr
                  gi_wp2_with (first
                    | (gi_at_call 30; refine HHo.out.mono ?_; rintro e w14 ⟨rfl, rfl⟩)
                    | (gi_at_call 29; refine HNr.out.mono ?_; rintro e w15 ⟨rfl, rfl⟩))
                  exact ⟨⟨j + 1, z, by omega, by go_num, HZl, HBi⟩, by simp [intOf]; omega⟩
              · gi_wp2
                exact ⟨⟨k + 1, z, by omega, by go_num, HZl, HBi⟩, by simp [intOf]; omega⟩
            · gi_wp2
              exact ⟨⟨k + 1, z, by omega, by go_num, HZl, HBi⟩, by simp [intOf]; omega⟩
      · have hk3 : 2 = k := by omega
        subst hk3
        have H16 := Hid.intro (ser16 HTr.out)
        gi_wp2_with (gi_at_call 16; refine (H16.out _ (Below.refl _ _)).mono ?_; rintro e w9 ⟨rfl, hB9⟩; have HB9' := Hid.intro hB9; clear hB9)
        all_goals (first | go_returns | go_ret | go_end0)
        exact ⟨rfl, HB06.out.trans ((HBr.out.trans (HB9'.out.mono HBr.out.size)).mono HB06.out.size)⟩
end Go.Eng
