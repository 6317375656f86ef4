/-
  The law SlideBoards' contract.
  Conditions: the two tables of math/bits hold what they are laid with; the arguments' cells are known.
-/
import Derived.Test.YtjcmalmcijpnnaaDoorBrdA
import Derived.Test.YtjcmalmcijpnnaaDoorBrdD
import Derived.Test.YtjcmalmcijpnnaaDoorBrdF
import Derived.Test.YtjcmalmcijpnnaaDoorChkX
import Derived.Test.YtjcmalmcijpnnaaDoorChkT
import Derived.Stop.RegionWithIn
namespace Go.Eng
open Go.RowKit Go.Proofs Go.Proofs.YtjcmalmcijpnnaaDoor

theorem setK_spec {p q : Nat → Nat} {n : Nat} (hp : Bij p n) : ∀ k, k ≤ n → ∀ i, i < k → setK p q k (p i) = q i
  | 0, _, i, hi => by omega
  | k + 1, hk, i, hi => by
    show (if p i = p k then q k else setK p q k (p i)) = q i
    by_cases e : p i = p k
    · have := hp.inj i k (by omega) (by omega) e
      rw [if_pos e, this]
    · rw [if_neg e]
      have : i ≠ k := fun h => e (by rw [h])
      exact setK_spec hp k (by omega) i (by omega)
theorem atK_setK (q : Nat → Nat) : ∀ k, atK q k = setK q id k
  | 0 => rfl
  | k + 1 => by
    funext j
    show (if j = q k then k else atK q k j) = (if j = q k then id k else setK q id k j)
    rw [atK_setK q k]; rfl
theorem Bij.onto {p : Nat → Nat} {n : Nat} (h : Bij p n) {x : Nat} (hx : x < n) : ∃ i, i < n ∧ p i = x := by
  have := (h.perm.mem_iff (a := x)).2 (List.mem_range.2 hx)
  obtain ⟨i, hi, e⟩ := List.mem_map.1 this
  exact ⟨i, List.mem_range.1 hi, e⟩
theorem IsPos.bij {N : Nat} {zs : List Int} (h : IsPos (N : Int) zs) : Bij (numAt zs) N := by
  refine ⟨fun i hi => by have := (h.num (i := i) (by omega)).2; omega, fun i j hi hj e => ?_⟩
  have hl := h.2.1
  have e1 := (h.num (i := i) (by omega)).1
  have e2 := (h.num (i := j) (by omega)).1
  rw [e, ← e2] at e1
  have hi' : i < zs.length := by omega
  have hj' : j < zs.length := by omega
  rw [List.getD_eq_getElem?_getD, List.getD_eq_getElem?_getD, List.getElem?_eq_getElem hi', List.getElem?_eq_getElem hj'] at e1
  have e3 : zs[i] = zs[j] := e1
  exact (List.getElem_inj h.2.2.2).1 e3
/-- Both ways to count give one sign. -/
theorem signs_eq {N : Nat} {P Q : List Int} (hP : IsPos (N : Int) P) (hQ : IsPos (N : Int) Q) :
    outerS (fun k => atK (numAt Q) N (numAt P k)) N = outerR (setK (numAt P) (numAt Q) N) N N := by
  have bp := hP.bij
  have bq := hQ.bij
  have ha : ∀ i, i < N → atK (numAt Q) N (numAt Q i) = i := fun i hi => by
    rw [atK_setK]; exact setK_spec bq N (Nat.le_refl _) i hi
  have h1 : ∀ i, i < N → numAt Q (atK (numAt Q) N (numAt P i)) = numAt P i := fun i hi => by
    obtain ⟨j, hj, e⟩ := bq.onto (bp.lt i hi)
    rw [← e, ha j hj]
  have bf : Bij (fun k => atK (numAt Q) N (numAt P k)) N := by
    refine ⟨fun i hi => ?_, fun i j hi hj e => ?_⟩
    · obtain ⟨j, hj, e⟩ := bq.onto (bp.lt i hi)
      show atK (numAt Q) N (numAt P i) < N
      rw [← e, ha j hj]; exact hj
    · have e' : numAt P i = numAt P j := by
        rw [← h1 i hi, ← h1 j hj]
        exact congrArg _ e
      exact bp.inj i j hi hj e'
  rw [outerS_sg, outerR_inv]
  exact sg_mod (inv_mod bp bq bf h1 fun i hi => setK_spec bp N (Nat.le_refl _) i hi)

section
variable {w : World} {N : Nat} {x p q : Value} {ps : List (Int × Int)} {P Q : List Int}
theorem ser35b (hN : 2 ≤ N ∧ N ≤ 9) (hx : PairsAt w x ps) (hl : ps.length ≤ 1000) (hb : IsBoard N ps) {b : Bool} (h : b = true ↔ WholeP N ps) : Ser w 35 #[.int .i64 (N : Int), x] (.tuple #[.bool b, .int .i64 0]) := fun w' hw =>
  (isWhole_calls w' N hN x ps (hx.below hw) hl hb).mono fun _ _ ⟨⟨c, hc, e⟩, hB⟩ => ⟨by
    have : c = b := by rw [Bool.eq_iff_iff, hc, h]
    rw [e, this], hB⟩
theorem ser38b (hN : 2 ≤ N ∧ N ≤ 9) (hx : PairsAt w x ps) (hl : ps.length ≤ 1000) (hb : IsBoard N ps) {b : Bool} (h : b = true ↔ WholeP N ps) : Ser w 38 #[.int .i64 (N : Int), x] (.bool b) := fun w' hw =>
  (whole_calls w' N hN x ps (hx.below hw) hl hb.1).mono fun _ _ ⟨⟨c, hc, e⟩, hB⟩ => ⟨by
    have : c = b := by rw [Bool.eq_iff_iff, hc, h]
    rw [e, this], hB⟩
theorem ser36b (hN : 2 ≤ N ∧ N ≤ 9) (hx : PairsAt w x ps) (hl : ps.length ≤ 1000) (hb : IsBoard N ps) {l : Nat} {b : Bool} (h : SidesIs (Adj (nats ps)) l b) : Ser w 36 #[.int .i64 (N : Int), x] (.tuple #[.int .i64 (l : Int), .bool b, .int .i64 0]) := fun w' hw =>
  (sides_calls w' N hN x ps (hx.below hw) hl hb).mono fun _ _ ⟨⟨m, c, hc, e⟩, hB⟩ => ⟨by
    obtain ⟨e1, e2⟩ := hc.unique h
    rw [e, e1, e2], hB⟩
theorem ser37b (hN : 2 ≤ N ∧ N ≤ 9) (hx : PairsAt w x ps) (hl : ps.length ≤ 1000) (hb : IsBoard N ps) {l : Nat} {b : Bool} (h : SidesIs (Adj (nats ps)) l b) : Ser w 37 #[.int .i64 (N : Int), x] (.tuple #[.int .i64 (l : Int), .bool b]) := fun w' hw =>
  (refSides_calls w' N hN x ps (hx.below hw) hl hb).mono fun _ _ ⟨⟨m, c, hc, e⟩, hB⟩ => ⟨by
    obtain ⟨e1, e2⟩ := hc.unique h
    rw [e, e1, e2], hB⟩
theorem ser34b (hp : IntsAt w p P) (hq : IntsAt w q Q) (hP : IsPos (N : Int) P) (hQ : IsPos (N : Int) Q) : Ser w 34 #[.int .i64 (N : Int), p, q] (.tuple #[.int .i64 (outerR (setK (numAt P) (numAt Q) N) N N), .int .i64 0]) := fun w' hw =>
  (sign_calls w' N p q P Q (hp.below hw) (hq.below hw)).mono fun _ _ ⟨hB, h⟩ => ⟨by
    rcases h with ⟨h, _⟩ | ⟨_, _, e⟩
    · exact absurd ⟨hP, hQ⟩ h
    · rw [e, ← signs_eq hP hQ]; rfl, hB⟩
theorem ser39b (hp : IntsAt w p P) (hq : IntsAt w q Q) (hP : IsPos (N : Int) P) (hQ : IsPos (N : Int) Q) : Ser w 39 #[p, q] (.int .i64 (outerR (setK (numAt P) (numAt Q) N) N N)) := fun w' hw => by
  have h1 := hp.below hw
  have h2 := hq.below hw
  have l1 : P.length = N := by have := hP.2.1; omega
  have l2 : Q.length = N := by have := hQ.2.1; omega
  have hN := hP.1
  rcases h1 with ⟨rfl, rfl⟩ | ⟨a, cap, rfl, h1c, h1l, h1a, h1d⟩
  · simp at l1; omega
  · rcases h2 with ⟨rfl, rfl⟩ | ⟨b, cap', rfl, h2c, h2l, h2a, h2d⟩
    · simp at l2; omega
    · have k1 : IntsAt w' (.slice (some a) P.length cap) P := .inr ⟨a, cap, rfl, h1c, h1l, h1a, h1d⟩
      have k2 : IntsAt w' (.slice (some b) Q.length cap') Q := .inr ⟨b, cap', rfl, h2c, h2l, h2a, h2d⟩
      rw [l1] at k1 ⊢
      rw [l2] at k2 ⊢
      exact refSign_walk w' N a b cap cap' P Q hP hQ k1 k2
theorem sides_exist (hN : 2 ≤ N ∧ N ≤ 9) (hb : IsBoard N ps) : ∃ l b, SidesIs (Adj (nats ps)) l b := by
  have hm := nats_mem hb.1
  exact ⟨_, _, sRounds_law (n := N) (by omega) (fun q hq => by have := hm q hq; omega) (fun i hi => (hb.2 i hi (by omega)).mono fun a b h => h.1) _ _ rfl⟩
end

set_option maxRecDepth 100000 in
set_option maxHeartbeats 16000000 in
/-- **The law SlideBoards.** -/
theorem boards_calls {w : World} (hw : TabsIn w) (n : Int) (v : Value) (u t : Value) (ps : List (Int × Int)) (us ts : List Int) (hv : PairsAt w v ps) (hu : IntsAt w u us) (ht : IntsAt w t ts) :
    CallsIn Fence.wide 0 Tryd.prog 9 #[.int .i64 n, v, .agg #[u, t]] w fun e w' => e = .returned (.bool true) ∧ Below w.heap.size w w' := by
  obtain ⟨o1, c1, rfl⟩ := hu.form
  obtain ⟨o2, c2, rfl⟩ := ht.form
  have HW := Hid.intro hw
  have HV := Hid.intro hv
  have HU := Hid.intro hu
  have HT := Hid.intro ht
  clear hw hv hu ht
  refine callsIn_of_wp Tryd.func9 rfl trivial ?_ rfl
  simp only [Tryd.ntmps9, List.size_toArray, List.length_cons, List.length_nil, Nat.reduceAdd, Nat.reduceSub, Array.replicate_succ, Array.replicate_zero, List.push_toArray, List.append_toArray, List.nil_append, List.cons_append]
  gi_wp2_with (gi_at_call 17; refine stop ?_)
  unfold Stop
  obtain ⟨W1, hW1⟩ : ∃ W1, W1 = w.alloc (.cells #[.slice o1 us.length c1, .slice o2 ts.length c2] 39) := ⟨_, rfl⟩
  rw [← hW1]
  have hB1 : Below w.heap.size w W1 := by rw [hW1]; exact (Below.refl _ _).alloc (Nat.le_refl _) _
  have hz1 : w.heap.size < W1.heap.size := by rw [hW1]; simp
  have hc0 : W1.cell? ⟨w.heap.size, 0, none⟩ = some (.slice o1 us.length c1) := by rw [hW1]; exact World.cell?_alloc_new _ _ _ _
  have hc1 : W1.cell? ⟨w.heap.size, 1, none⟩ = some (.slice o2 ts.length c2) := by rw [hW1]; exact World.cell?_alloc_new _ _ _ _
  refine (tame_walk W1 n v ps (HV.out.below hB1) 9 (by omega)).mono ?_
  rintro e w2 ⟨N, x, qs, hN, rfl, hx, hql, hb, hB2⟩
  have d0 := (hB2.cell (p := ⟨w.heap.size, 0, none⟩) hz1).trans hc0
  have d1 := (hB2.cell (p := ⟨w.heap.size, 1, none⟩) hz1).trans hc1
  have hB12 := hB1.trans (hB2.mono hB1.size)
  have HB := Hid.intro hB12
  have HO0 : Hid (∀ w', Below w2.heap.size w2 w' → CallsIn Fence.wide 0 Tryd.prog 20 #[.int .i64 (N : Int), .slice o1 us.length c1] w' fun e w'' => ∃ (v' : Value) (zs : List Int), e = .returned v' ∧ IntsAt w'' v' zs ∧ IsPos (N : Int) zs ∧ Below w'.heap.size w' w'') :=
    fun w' hw => order_walk w' N hN _ us ((HU.out.below hB12).below hw)
  have HO1 : Hid (∀ w', Below w2.heap.size w2 w' → CallsIn Fence.wide 0 Tryd.prog 20 #[.int .i64 (N : Int), .slice o2 ts.length c2] w' fun e w'' => ∃ (v' : Value) (zs : List Int), e = .returned v' ∧ IntsAt w'' v' zs ∧ IsPos (N : Int) zs ∧ Below w'.heap.size w' w'') :=
    fun w' hw => order_walk w' N hN _ ts ((HT.out.below hB12).below hw)
  have HBk : Hid (Below w2.heap.size w2 w2) := Below.refl _ _
  have HX := Hid.intro hx
  have HB9 := Hid.intro hb
  have hz2 : w.heap.size < w2.heap.size := Nat.lt_of_lt_of_le hz1 hB2.size
  clear hW1 hB1 hz1 hc0 hc1 hB2 hB12 hx hb
  gi_wp2
  gi_region_with (first
    | (gi_at_call 20; refine (HO0.out w2.drew HBk.out.drew).mono ?_; rintro e w3 ⟨p, P, rfl, hp, hP, hB⟩; have HPp := Hid.intro hp; have HPP := Hid.intro hP; have HBk := Hid.intro (HBk.out.drew.trans (hB.mono HBk.out.drew.size)); have d1 := (hB.cell (p := ⟨w.heap.size, 1, none⟩) hz2).trans d1; clear hp hP hB)
    | (gi_at_call 20; refine (HO1.out w3 HBk.out).mono ?_; rintro e w4 ⟨q, Q, rfl, hq, hQ, hB⟩; have HQq := Hid.intro (And.intro hq hB); have HQQ := Hid.intro hQ; have HBk := Hid.intro (HBk.out.trans (hB.mono HBk.out.size)); clear hq hQ hB))
  all_goals
    have HBall := Hid.intro (HB.out.trans (HBk.out.mono HB.out.size))
    obtain ⟨bw, hbw⟩ : ∃ b : Bool, b = true ↔ WholeP N qs := ⟨@decide (WholeP N qs) (Classical.propDecidable _), by simp⟩
    obtain ⟨l, bs, hs⟩ := sides_exist hN HB9.out
    have hx4 := HX.out.below HBk.out
    have hp4 := HPp.out.below HQq.out.2
    have H35 := Hid.intro (ser35b hN hx4 (by omega) HB9.out hbw)
    have H38 := Hid.intro (ser38b hN hx4 (by omega) HB9.out hbw)
    have H36 := Hid.intro (ser36b hN hx4 (by omega) HB9.out hs)
    have H37 := Hid.intro (ser37b hN hx4 (by omega) HB9.out hs)
    have H34 := Hid.intro (ser34b hp4 HQq.out.1 HPP.out HQQ.out)
    have H39 := Hid.intro (ser39b hp4 HQq.out.1 HPP.out HQQ.out)
    have H16 := Hid.intro (ser16 (HW.out.below HBall.out))
    have HBk : Hid (Below w4.heap.size w4 w4) := Below.refl _ _
    clear hbw hs hx4 hp4 d0 d1
    gi_wp2_with (first | (gi_at_call 35; refine (H35.out _ HBk.out).mono ?_; rintro e w1 ⟨rfl, hB⟩; have HBk := Hid.intro (HBk.out.trans (hB.mono HBk.out.size)); clear hB) | (gi_at_call 36; refine (H36.out _ HBk.out).mono ?_; rintro e w1 ⟨rfl, hB⟩; have HBk := Hid.intro (HBk.out.trans (hB.mono HBk.out.size)); clear hB) | (gi_at_call 34; refine (H34.out _ HBk.out).mono ?_; rintro e w1 ⟨rfl, hB⟩; have HBk := Hid.intro (HBk.out.trans (hB.mono HBk.out.size)); clear hB) | (gi_at_call 37; refine (H37.out _ HBk.out).mono ?_; rintro e w1 ⟨rfl, hB⟩; have HBk := Hid.intro (HBk.out.trans (hB.mono HBk.out.size)); clear hB) | (gi_at_call 38; refine (H38.out _ HBk.out).mono ?_; rintro e w1 ⟨rfl, hB⟩; have HBk := Hid.intro (HBk.out.trans (hB.mono HBk.out.size)); clear hB) | (gi_at_call 39; refine (H39.out _ HBk.out).mono ?_; rintro e w1 ⟨rfl, hB⟩; have HBk := Hid.intro (HBk.out.trans (hB.mono HBk.out.size)); clear hB) | (gi_at_call 16; refine (H16.out _ HBk.out).mono ?_; rintro e w1 ⟨rfl, hB⟩; have HBk := Hid.intro (HBk.out.trans (hB.mono HBk.out.size)); clear hB))
    all_goals (first | go_returns | go_ret | go_end0)
    all_goals exact ⟨rfl, HBall.out.trans (HBk.out.mono HBall.out.size)⟩
end Go.Eng
