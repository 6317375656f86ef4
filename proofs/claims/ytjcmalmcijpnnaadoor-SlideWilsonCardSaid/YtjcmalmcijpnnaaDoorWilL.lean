/-
  The law SlideWilson.
  Conditions: none.
-/
import Derived.Test.YtjcmalmcijpnnaaDoorWilZ
import Derived.Test.YtjcmalmcijpnnaaDoorWilM
import Derived.Test.YtjcmalmcijpnnaaDoorChkX
import Derived.Test.YtjcmalmcijpnnaaDoorChkW
import Derived.Test.YtjcmalmcijpnnaaDoorBrdH
namespace Go.Eng
open Go.RowKit Go.Proofs Go.Proofs.YtjcmalmcijpnnaaDoor

section
variable {N : Nat} {ps : List (Int × Int)}
/-- On a whole board that is no ring and not the one of seven places, all turns can be made. -/
theorem wil_alt (hN : N ≤ 8) (hb : IsBoard N ps) (hw : WholeP N ps) (h2 : ¬ ∀ v, v < N → (nbL (nats ps) v).length = 2) (h7 : ¬ SevenP N (nats ps)) : AltS (nats ps) N (fun i => decide (i < N)) := by
  have hex : ∃ v, v < N ∧ (nbL (nats ps) v).length ≠ 2 := by
    apply Classical.byContradiction
    intro hno
    exact h2 fun v hv => Classical.byContradiction fun e => hno ⟨v, hv, e⟩
  obtain ⟨v, hv, hne⟩ := hex
  have := two_le hb hw hv
  rcases turns_or_seven hN hb hw (u := v) (by omega) with h | ⟨a, b, c, f, h122, e, k⟩
  · exact h
  · subst e
    exact absurd (exact_seven h122 hb k) h7
theorem wil_ring (hN : N ≤ 8) (hb : IsBoard N ps) (hw : WholeP N ps) (h2 : ∀ v, v < N → (nbL (nats ps) v).length = 2) {a b c : Nat} (h : Bfs (Mov (nats ps) N) (idF N) a b c) : a / N = N - 1 := by
  obtain ⟨f, k⟩ := ring_exact hN hb hw h2
  exact ring_size ⟨hw.1, hN⟩ hb k h
theorem wil_seven (hb : IsBoard N ps) (hw : WholeP N ps) (h7 : SevenP N (nats ps)) {a b c : Nat} (h : Bfs (Mov (nats ps) N) (idF N) a b c) : a / N = 120 := by
  obtain ⟨e, x, y, z, f, h122, k⟩ := seven_exact hb hw h7
  subst e
  exact seven_size h122 hb k h
theorem side_small (hN : N ≤ 9) (hb : IsBoard N ps) {l : Nat} (hs : SidesIs (Adj (nats ps)) l true) : l < 512 := by
  have hm := nats_mem hb.1
  rcases hs with ⟨_, _, hl⟩ | ⟨h, _⟩
  · refine Nat.lt_pow_two_of_testBit (n := 9) l fun i hi => ?_
    cases h : l.testBit i with
    | false => rfl
    | true =>
      obtain ⟨k, hk, w⟩ := (hl i).1 h
      cases k with
      | zero => have w : i = 0 := w; omega
      | succ k =>
        obtain ⟨a, _, e⟩ := w
        have := (adj_ne hm e).2.1
        omega
  · cases h
theorem side_val {l j : Nat} (hl : l < 512) (hj : j < 9) : ((l : Int) / 2 ^ j).tmod 2 = ((sideN l j : Nat) : Int) := by
  have h1 := has_bit hl hj
  have h0 : (0 : Int) ≤ (l : Int) / 2 ^ j := Int.ediv_nonneg (by omega) (by have : (0 : Int) < 2 ^ j := Int.pow_pos (by decide); omega)
  have h2 := Int.tmod_nonneg 2 h0
  have h3 := Int.tmod_lt_of_pos ((l : Int) / 2 ^ j) (b := 2) (by decide)
  unfold sideN
  cases hb : l.testBit j with
  | true =>
    rw [hb] at h1
    simp at h1
    rw [h1]; rfl
  | false =>
    rw [hb] at h1
    simp at h1
    simp
    omega
theorem prod_fac {m : Nat} (h : m ≤ 8) : prodF m m = facM m := by
  have : m = 0 ∨ m = 1 ∨ m = 2 ∨ m = 3 ∨ m = 4 ∨ m = 5 ∨ m = 6 ∨ m = 7 ∨ m = 8 := by omega
  rcases this with rfl | rfl | rfl | rfl | rfl | rfl | rfl | rfl | rfl <;> rfl
end

set_option maxRecDepth 100000 in
set_option maxHeartbeats 16000000 in
/-- **The law SlideWilson.** -/
theorem wilson_calls {w : World} (hw : TabsIn w) (n : Int) (v u t : Value) (ps : List (Int × Int)) (us ts : List Int) (hv : PairsAt w v ps) (hu : IntsAt w u us) (ht : IntsAt w t ts) :
    CallsIn Fence.wide 0 Tryd.prog 10 #[.int .i64 n, v, .agg #[u, t]] w fun e w' => e = .returned (.bool true) ∧ Below w.heap.size w w' := by
  obtain ⟨o1, c1, rfl⟩ := hu.form
  obtain ⟨o2, c2, rfl⟩ := ht.form
  have HW := Hid.intro hw
  have HV := Hid.intro hv
  have HU := Hid.intro hu
  have HT := Hid.intro ht
  clear hw hv hu ht
  refine callsIn_of_wp Tryd.func10 rfl trivial ?_ rfl
  simp only [Tryd.ntmps10, List.size_toArray, List.length_cons, List.length_nil, Nat.reduceAdd, Nat.reduceSub, Array.replicate_succ, Array.replicate_zero, List.push_toArray, List.append_toArray, List.nil_append, List.cons_append]
  gi_wp2_with (gi_at_call 17; refine stop ?_)
  unfold Stop
  obtain ⟨W1, hW1⟩ : ∃ W1, W1 = w.alloc (.cells #[.slice o1 us.length c1, .slice o2 ts.length c2] 39) := ⟨_, rfl⟩
  rw [← hW1]
  have hB1 : Below w.heap.size w W1 := by rw [hW1]; exact (Below.refl _ _).alloc (Nat.le_refl _) _
  have hz1 : w.heap.size < W1.heap.size := by rw [hW1]; simp
  have hc0 : W1.cell? ⟨w.heap.size, 0, none⟩ = some (.slice o1 us.length c1) := by rw [hW1]; exact World.cell?_alloc_new _ _ _ _
  have hc1 : W1.cell? ⟨w.heap.size, 1, none⟩ = some (.slice o2 ts.length c2) := by rw [hW1]; exact World.cell?_alloc_new _ _ _ _
  refine (tame_walk W1 n v ps (HV.out.below hB1) 8 (by omega)).mono ?_
  rintro e w2 ⟨N, x, qs, hN8, rfl, hx, hql, hb, hB2⟩
  have hN : 2 ≤ N ∧ N ≤ 9 := by omega
  have hx5 := hx
  rw [← ints_nats hb.1] at hx5
  obtain ⟨ox, cx, rfl, hed⟩ := hx5.edges
  have d0 := (hB2.cell (p := ⟨w.heap.size, 0, none⟩) hz1).trans hc0
  have d1 := (hB2.cell (p := ⟨w.heap.size, 1, none⟩) hz1).trans hc1
  have hB12 := hB1.trans (hB2.mono hB1.size)
  have HB := Hid.intro hB12
  have HO0 : Hid (∀ w', Below w2.heap.size w2 w' → CallsIn Fence.wide 0 Tryd.prog 20 #[.int .i64 (N : Int), .slice o1 us.length c1] w' fun e w'' => ∃ (v' : Value) (zs : List Int), e = .returned v' ∧ IntsAt w'' v' zs ∧ IsPos (N : Int) zs ∧ Below w'.heap.size w' w'') :=
    fun w' hw => order_walk w' N hN _ us ((HU.out.below hB12).below hw)
  have HO1 : Hid (∀ w', Below w2.heap.size w2 w' → CallsIn Fence.wide 0 Tryd.prog 20 #[.int .i64 (N : Int), .slice o2 ts.length c2] w' fun e w'' => ∃ (v' : Value) (zs : List Int), e = .returned v' ∧ IntsAt w'' v' zs ∧ IsPos (N : Int) zs ∧ Below w'.heap.size w' w'') :=
    fun w' hw => order_walk w' N hN _ ts ((HT.out.below hB12).below hw)
  have HBk : Hid (Below w2.heap.size w2 w2) := Below.refl _ _
  have HX := Hid.intro hx
  have HED := Hid.intro hed
  have HB9 := Hid.intro hb
  have hz2 : w.heap.size < w2.heap.size := Nat.lt_of_lt_of_le hz1 hB2.size
  clear hW1 hB1 hz1 hc0 hc1 hB2 hB12 hx hb hed hx5
  gi_wp2
  refine region_rel (fun a' w' => ∃ vp vq zp zq, a' = { tmps := #[.int .i64 (N : Int), v, .agg #[.slice o1 us.length c1, .slice o2 ts.length c2], undef, undef, .pointer (some ⟨w.heap.size, 0, none⟩), .bool false, .slice ox (nats qs).length cx, vp, vq, undef, undef, undef, undef, undef, undef, undef, undef, undef, undef, undef, undef, undef, .tuple #[.int .i64 (N : Int), .slice ox (nats qs).length cx], .int .i64 n, v, .tuple #[.int .i64 (N : Int), .slice ox (nats qs).length cx], .int .i64 (N : Int), .slice ox (nats qs).length cx, .int .i64 (N : Int), .pointer (some ⟨w.heap.size, 0, none⟩), .slice o1 us.length c1, vp, .int .i64 (N : Int), .pointer (some ⟨w.heap.size, 1, none⟩), .slice o2 ts.length c2, vq, undef, undef, undef, undef, undef, undef, undef, undef, undef, undef, undef, undef, undef, undef, undef, undef, undef, undef, undef, undef, undef, undef, undef, undef, undef, undef, undef, undef, undef, undef, undef, undef, undef, undef, undef, undef, undef, undef, undef, undef, undef, undef, undef, undef, undef, undef, undef, undef, undef, undef, undef, undef, undef, undef, undef, undef, undef, undef, undef, undef, undef, undef, undef, undef, undef, undef, undef, undef, undef, undef, undef, undef, undef, undef, undef, undef, undef, undef, undef, undef, undef, undef, undef, undef, undef, undef, undef, undef, undef, undef, undef, undef, undef, undef, undef, undef, undef, undef, undef, undef, undef, undef, undef, undef, undef, undef, undef, undef, undef, undef, undef, undef], defers := [] } ∧ PosList w' vp N zp ∧ PosList w' vq N zq ∧ Below w2.heap.size w2 w') ?rest ?reg
  case reg =>
    gi_region_with (first
      | (gi_at_call 20; refine (HO0.out w2.drew HBk.out.drew).mono ?_; rintro e w3 ⟨p, P, rfl, hp, hP, hB⟩; have HPp := Hid.intro hp; have HPP := Hid.intro hP; have HBk := Hid.intro (HBk.out.drew.trans (hB.mono HBk.out.drew.size)); have d1 := (hB.cell (p := ⟨w.heap.size, 1, none⟩) hz2).trans d1; clear hp hP hB)
      | (gi_at_call 20; refine (HO1.out w3 HBk.out).mono ?_; rintro e w4 ⟨q, Q, rfl, hq, hQ, hB⟩; have HQq := Hid.intro (And.intro hq hB); have HQQ := Hid.intro hQ; have HBk := Hid.intro (HBk.out.trans (hB.mono HBk.out.size)); clear hq hQ hB))
    all_goals exact ⟨_, _, _, _, rfl, PosList.of hN (HPp.out.below HQq.out.2) HPP.out, PosList.of hN HQq.out.1 HQQ.out, HBk.out⟩
  case rest =>
    rintro a' w4 ⟨vp, vq, zp, zq, rfl, hpl, hql0, hB4⟩
    dsimp only
    have HPL := Hid.intro hpl
    have HQL := Hid.intro hql0
    have HB4 := Hid.intro hB4
    have HB04 : Hid (Below w.heap.size w w4) := HB.out.trans (hB4.mono HB.out.size)
    have HX4 := Hid.intro (HX.out.below hB4)
    have HED4 := Hid.intro (HED.out.below hB4)
    have HT4 := Hid.intro (HW.out.below HB04.out)
    have HQ := Hid.intro (nats_mem HB9.out.1)
    have hqlB : qs.length ≤ 1000 := by omega
    have hnl : (nats qs).length ≤ 1000 := by rw [nats_len]; omega
    obtain ⟨bw, hbw⟩ : ∃ b : Bool, b = true ↔ WholeP N qs := ⟨@decide (WholeP N qs) (Classical.propDecidable _), by simp⟩
    obtain ⟨l, two, hsd⟩ := sides_exist hN HB9.out
    obtain ⟨bi, hbi⟩ : ∃ b : Bool, b = true ↔ ∃ d, DistE (Mov (nats qs) N) zp d zq := ⟨@decide (∃ d, DistE (Mov (nats qs) N) zp d zq) (Classical.propDecidable _), by simp⟩
    obtain ⟨h, hzh⟩ := hpl.1.ex_hole (by omega) (by omega)
    obtain ⟨g, hzg⟩ := hql0.1.ex_hole (by omega) (by omega)
    obtain ⟨sn, hsn⟩ : ∃ s : Int, outerR (setK (numAt ((List.range N).map zp)) (numAt ((List.range N).map zq)) N) N N = s := ⟨_, rfl⟩
    have HBW := Hid.intro hbw
    have HSD := Hid.intro hsd
    have HBI := Hid.intro hbi
    have HZH := Hid.intro hzh
    have HZG := Hid.intro hzg
    have HSN := Hid.intro hsn
    have HC35 := Hid.intro (ser35b hN HX4.out hqlB HB9.out hbw)
    have HC36 := Hid.intro (ser36b hN HX4.out hqlB HB9.out hsd)
    have HC28 : Hid (∀ w', Below w4.heap.size w4 w' → CallsIn Fence.wide 0 Tryd.prog 28 _ w' _) := fun w' hb => reach_is (HT4.out.below hb) hN (HX4.out.below hb) hqlB HB9.out (HPL.out.below hb) (HQL.out.below hb) HBI.out
    have HC34 : Hid (∀ w', Below w4.heap.size w4 w' → CallsIn Fence.wide 0 Tryd.prog 34 #[.int .i64 (N : Int), vp, vq] w' fun e w'' => e = .returned (.tuple #[.int .i64 sn, .int .i64 0]) ∧ Below w'.heap.size w' w'') := fun w' hb => by
      have := ser34b (N := N) ((HPL.out.below hb).ints hN.2) ((HQL.out.below hb).ints hN.2) (PosList.isPos hN HPL.out.1) (PosList.isPos hN HQL.out.1) _ (Below.refl _ _)
      rw [HSN.out] at this
      exact this
    have HC18 : Hid (∀ w', Below w4.heap.size w4 w' → CallsIn Fence.wide 0 Tryd.prog 18 _ w' _) := fun w' hb => size_calls w' (HT4.out.below hb) N hN _ qs (HX4.out.below hb) hqlB HB9.out
    have H16 := Hid.intro (ser16 HT4.out)
    clear d0 d1 HO0 HO1 HBk hpl hql0 hB4 hbw hsd hbi hzh hzg hsn
    gi_wp2_with (gi_at_call 35; refine (HC35.out _ (Below.refl _ _)).mono ?_; rintro e w5 ⟨rfl, hB5⟩; have HB5 := Hid.intro hB5; clear hB5; refine stop ?_)
    unfold Stop
    gi_wp2_with (gi_at_call 36; refine (HC36.out _ HB5.out).mono ?_; rintro e w6 ⟨rfl, hB6⟩; have HB6 := Hid.intro (HB5.out.trans (hB6.mono HB5.out.size)); clear hB6; refine stop ?_)
    unfold Stop
    gi_wp2_with (gi_at_call 28; refine (HC28.out _ HB6.out).mono ?_; rintro e w7 ⟨rfl, hB7⟩; have HB7 := Hid.intro (HB6.out.trans (hB7.mono HB6.out.size)); clear hB7; refine stop ?_)
    unfold Stop
    gi_wp2_with (gi_at_call 34; refine (HC34.out _ HB7.out).mono ?_; rintro e w8 ⟨rfl, hB8⟩; have HB8 := Hid.intro (HB7.out.trans (hB8.mono HB7.out.size)); clear hB8; refine stop ?_)
    unfold Stop
    gi_wp2_with (gi_at_call 18; refine (HC18.out _ HB8.out).mono ?_; rintro e w9 ⟨⟨c', m', l', hbf, rfl⟩, hB9⟩; have HBF := Hid.intro hbf; obtain ⟨Z, hZ⟩ : ∃ Z, c' / N = Z := ⟨_, rfl⟩; rw [hZ]; have HZ := Hid.intro hZ; have HB9' := Hid.intro (HB8.out.trans (hB9.mono HB8.out.size)); clear hbf hZ hB9; refine stop ?_)
    unfold Stop
    clear HC35 HC36 HC28 HC34 HC18
    cases bw with
    | false =>
      gi_wp2_with (gi_at_call 16; refine (H16.out _ HB9'.out).mono ?_; rintro e w10 ⟨rfl, hB10⟩; have HB10 := Hid.intro (HB9'.out.trans (hB10.mono HB9'.out.size)); clear hB10)
      all_goals (first | go_returns | go_ret | go_end0)
      exact ⟨rfl, HB04.out.trans (HB10.out.mono HB04.out.size)⟩
    | true =>
      have HWh := Hid.intro (HBW.out.1 rfl)
      have hN3 : 2 < N := HWh.out.1
      have H40 := Hid.intro (ring_calls w9 N hN ox cx (nats qs) (HED4.out.below HB9'.out) hnl HQ.out)
      gi_wp2_with (gi_at_call 40; refine H40.out.mono ?_; rintro e w10 ⟨⟨br, hbr, rfl⟩, hB10⟩; have HBR := Hid.intro hbr; have HB10 := Hid.intro (HB9'.out.trans (hB10.mono HB9'.out.size)); clear hbr hB10; refine stop ?_)
      unfold Stop
      cases br with
      | true =>
        have hS : (Z : Int) = (N : Int) - 1 := by
          have := wil_ring (by omega) HB9.out HWh.out (HBR.out.1 rfl) HBF.out
          rw [HZ.out] at this
          omega
        gi_wp2_with (gi_at_call 16; refine (H16.out _ HB10.out).mono ?_; rintro e w11 ⟨rfl, hB11⟩; have HB11 := Hid.intro (HB10.out.trans (hB11.mono HB10.out.size)); clear hB11)
        all_goals (first | go_returns | go_ret | go_end0)
        exact ⟨rfl, HB04.out.trans (HB11.out.mono HB04.out.size)⟩
      | false =>
        have HNR : Hid (¬ ∀ v, v < N → (nbL (nats qs) v).length = 2) := Hid.intro (fun h => by have := HBR.out.2 h; cases this)
        have H41 := Hid.intro (seven_calls w10 N hN ox cx (nats qs) (HED4.out.below HB10.out) hnl HQ.out)
        gi_wp2_with (gi_at_call 41; refine H41.out.mono ?_; rintro e w11 ⟨⟨bs, hbs, rfl⟩, hB11⟩; have HBS := Hid.intro hbs; have HB11 := Hid.intro (HB10.out.trans (hB11.mono HB10.out.size)); clear hbs hB11; refine stop ?_)
        unfold Stop
        cases bs with
        | true =>
          have hS : (Z : Int) = 120 := by
            have := wil_seven HB9.out HWh.out (HBS.out.1 rfl) HBF.out
            rw [HZ.out] at this
            omega
          gi_wp2_with (gi_at_call 16; refine (H16.out _ HB11.out).mono ?_; rintro e w12 ⟨rfl, hB12⟩; have HB12 := Hid.intro (HB11.out.trans (hB12.mono HB11.out.size)); clear hB12)
          all_goals (first | go_returns | go_ret | go_end0)
          exact ⟨rfl, HB04.out.trans (HB12.out.mono HB04.out.size)⟩
        | false =>
          have HA := Hid.intro (wil_alt (by omega) HB9.out HWh.out HNR.out (fun h => by have := HBS.out.2 h; cases this))
          obtain ⟨m, hm⟩ : ∃ m, N - 1 = m := ⟨_, rfl⟩
          have hm1 : (N : Int) - 1 = (m : Int) := by omega
          have H42 : Hid (CallsIn Fence.wide 0 Tryd.prog 42 #[.int .i64 (m : Int)] w11 fun e w' => e = .returned (.int .i64 ((facM m : Nat) : Int)) ∧ w11 = w') := by
            have := factorial_calls w11 m (by omega)
            rw [prod_fac (by omega)] at this
            exact this
          obtain ⟨F, hF⟩ : ∃ F, facM m = F := ⟨_, rfl⟩
          rw [hF] at H42
          have HF := Hid.intro (show facM (N - 1) = F by rw [hm]; exact hF)
          have hFb : F ≤ 362880 := by rw [← hF]; exact facM_le (by omega)
          clear hF hm
          gi_wp2_with (gi_at_call 42; refine H42.out.mono ?_; rintro e w12 ⟨rfl, rfl⟩; refine stop ?_)
          unfold Stop
          cases two with
          | false =>
            have HOd : Hid (Odd2 (Adj (nats qs))) := by
              rcases HSD.out with ⟨h, _⟩ | ⟨_, h, _⟩
              · cases h
              · exact h
            have hbt : bi = true := HBI.out.2 (one_side hN HB9.out HA.out HOd.out HPL.out.1 HQL.out.1)
            subst hbt
            have hS : (Z : Int) = (F : Int) := by
              have := size_one hN HB9.out HA.out HOd.out HBF.out
              rw [HZ.out, HF.out] at this
              omega
            gi_wp2_with (gi_at_call 16; refine (H16.out _ HB11.out).mono ?_; rintro e w12 ⟨rfl, hB12⟩; have HB12 := Hid.intro (HB11.out.trans (hB12.mono HB11.out.size)); clear hB12)
            all_goals (first | go_returns | go_ret | go_end0)
            exact ⟨rfl, HB04.out.trans (HB12.out.mono HB04.out.size)⟩
          | true =>
            have hS : 2 * (Z : Int) = (F : Int) := by
              have := size_two (by omega) HB9.out HA.out HSD.out HBF.out
              rw [HZ.out, HF.out] at this
              omega
            have hS2 : wrap64 (2 * (Z : Int)) = (F : Int) := by rw [hS]; unfold wrap64; omega
            have hl5 := side_small hN.2 HB9.out HSD.out
            have hh9 : h < 9 := by have := HZH.out.lt; omega
            have hg9 : g < 9 := by have := HZG.out.lt; omega
            have s1 := side_val hl5 hh9
            have s2 := side_val hl5 hg9
            obtain ⟨x1, hx1⟩ : ∃ x, sideN l h = x := ⟨_, rfl⟩
            obtain ⟨x2, hx2⟩ : ∃ x, sideN l g = x := ⟨_, rfl⟩
            have k1 : x1 ≤ 1 := by rw [← hx1]; unfold sideN; split <;> omega
            have k2 : x2 ≤ 1 := by rw [← hx2]; unfold sideN; split <;> omega
            have hre := two_sides hN HB9.out HA.out HSD.out HPL.out.1 HQL.out.1 HZH.out HZG.out
            have hsg := HSN.out
            rw [sign_par (PosList.isPos hN HPL.out.1) (PosList.isPos hN HQL.out.1), numAt_pos HPL.out.1, numAt_pos HQL.out.1] at hsg
            rw [hx1] at s1
            rw [hx2] at s2
            rw [hx1, hx2] at hre
            have HRE : Hid ((bi = true ↔ (inv (natF zp) N + x1) % 2 = (inv (natF zq) N + x2) % 2) ∧ sg (inv (natF zp) N + inv (natF zq) N) = sn) := Hid.intro ⟨HBI.out.trans hre, hsg⟩
            have H30 : Hid (∀ k, CallsIn Fence.wide 0 Tryd.prog 30 #[vp] (w11.drewN k) fun e w' => e = .returned (.int .i64 (h : Int)) ∧ w' = w11.drewN k) := fun k => (hole_is hN (HPL.out.below (HB11.out.trans ((drewN_below w11 k).mono HB11.out.size))) HZH.out).mono fun _ _ q => ⟨q.1, q.2.symm⟩
            have H30q : Hid (∀ k, CallsIn Fence.wide 0 Tryd.prog 30 #[vq] (w11.drewN k) fun e w' => e = .returned (.int .i64 (g : Int)) ∧ w' = w11.drewN k) := fun k => (hole_is hN (HQL.out.below (HB11.out.trans ((drewN_below w11 k).mono HB11.out.size))) HZG.out).mono fun _ _ q => ⟨q.1, q.2.symm⟩
            clear hre hsg hx1 hx2
            gi_wp2
            gi_quiet ((first | (gi_at_call 30; with_reducible refine CallsIn.quiet_of_same (H30.out _)) | (gi_at_call 30; with_reducible refine CallsIn.quiet_of_same (H30q.out _))))
            obtain ⟨A, hA⟩ : ∃ A, inv (natF zp) N = A := ⟨_, rfl⟩
            obtain ⟨B, hB⟩ : ∃ B, inv (natF zq) N = B := ⟨_, rfl⟩
            rw [hA, hB] at HRE
            clear hA hB
            have hbs : bi = true ∨ bi = false := by cases bi <;> simp
            have hse : ((A + B) % 2 = 0 ∧ sn = 1) ∨ ((A + B) % 2 = 1 ∧ sn = -1) := by
              have := HRE.out.2
              unfold sg at this
              by_cases e : (A + B) % 2 = 0
              · rw [if_pos e] at this; exact .inl ⟨e, this.symm⟩
              · rw [if_neg e] at this; exact .inr ⟨by omega, this.symm⟩
            have hre := HRE.out.1
            have HB16 := Hid.intro (HB11.out.trans ((drewN_below w11 nq).mono HB11.out.size))
            clear HRE H30 H30q
            by_cases hx : x1 = x2
            case' pos =>
              have hx' : ((x1 : Int) == (x2 : Int)) = true := by simp [hx]
              have hx3 : decide ((x1 : Int) = (x2 : Int)) = true := by simp [hx]
            case' neg =>
              have hx' : ((x1 : Int) == (x2 : Int)) = false := by simp; omega
              have hx3 : decide ((x1 : Int) = (x2 : Int)) = false := by simp; omega
            all_goals
              rcases hse with ⟨he, rfl⟩ | ⟨he, rfl⟩
              all_goals
                rcases hbs with rfl | rfl
                all_goals first
                  | (exfalso; simp at hre; omega)
                  | skip
                all_goals
                  clear hre
                  gi_wp2_with (gi_at_call 16; refine (H16.out _ HB16.out).mono ?_; rintro e w12 ⟨rfl, hB12⟩; have HB12 := Hid.intro (HB16.out.trans (hB12.mono HB16.out.size)); clear hB12)
                  all_goals (first | go_returns | go_ret | go_end0)
                  exact ⟨rfl, HB04.out.trans (HB12.out.mono HB04.out.size)⟩
end Go.Eng
