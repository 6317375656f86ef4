/-
  The law NumChecks answers true.
  Conditions: the tables lie in memory; the rows of strings lie in memory.
-/
import Derived.Test.YtoamcgjbelhnkaaGreatDoorMatX
namespace Go.Num
open Go.Eng Go.Shelf Go.RowKit Go.Sort Go.Proofs Go.Proofs.YtoamcgjbelhnkaaGreatDoor

/-- A piece of code of whose end something is known. -/
theorem seq_by {P : Program} {F : Fence} {n : Nat} {x y : Code} {Q : Exit → CAct → World → Prop} {a : CAct} {w : World} {R : CAct → World → Prop} (hx : x.wpIn F n P (fun e a' w' => e = .normal ∧ R a' w') a w) (hy : ∀ A W, R A W → y.wpIn F n P Q A W) : (x.seq y).wpIn F n P Q a w := by
  refine wpIn_seq (wpIn_mono hx ?_)
  rintro e a' w' ⟨rfl, h⟩
  exact hy _ _ h
theorem rowOf_le (s : Nat → ByteArray) (k : Nat) : ∀ q ∈ rowOf s k, Kept1 q = true := by
  intro q hq
  unfold rowOf at hq
  obtain ⟨j, _, rfl⟩ := List.mem_map.1 hq
  exact rq_kept _ _
theorem matOf_kept (m : Nat → Nat) (s : Nat → Nat → ByteArray) (most k : Nat) : ∀ r ∈ matOf m s most k, ∀ q ∈ r, Kept1 q = true := by
  intro r hr
  unfold matOf at hr
  obtain ⟨j, _, rfl⟩ := List.mem_map.1 hr
  exact rowOf_le _ _
theorem matOf_le (m : Nat → Nat) (s : Nat → Nat → ByteArray) (most k : Nat) : MatLe (matOf m s most k) := fun r hr q hq => (kept_le (matOf_kept m s most k r hr q hq)).mono (by decide)

abbrev strO : AT := .val (.sc (.str ⟨#[48]⟩))
def scr0 : List Entry := [(26, A1 (tg 0), A1 (vi 0)), (49, A1 (tg 1), A1 (vi 0)), (14, .nil, A1 (vb true))]
def scrF (c : Int) : List Entry :=
  [(26, A1 (tg 0), A1 (vi c)), (49, A1 (tg 1), A1 (vi c)), (50, A1 (tg 1), A2 zR (vi c)), (51, A1 (tg 1), A2 (vi 0) (vi c)), (32, A2 (tg 1) ns, A3 ns (vi 0) (vi c)), (27, A1 (tg 1), A2 ns (vi c)), (52, A1 (tg 1), A2 ns (vi c)), (13, A1 zR, A1 strO), (14, .nil, A1 (vb true))]

section
variable {w : World} {o1 o2 : Option Addr} {n1 k1 n2 k2 : Nat} {m : List (List Rat)} {c : Int}
theorem told_rcheck {r : List Entry} (h1 : MatQ w (.slice o1 n1 k1) m) (hc : checkM m = c) (K : TI w [leafV o1 n1 k1, leafV o2 n2 k2] r) : TI w [leafV o1 n1 k1, leafV o2 n2 k2] ((26, A1 (tg 0), A1 (vi c)) :: r) := by
  refine told_e1 ⟨_, Tryz.func26, rfl⟩ (fun w1 v hw hv => ?_) K
  have hv : v = .slice o1 n1 k1 := hv
  subst hv
  refine (rcheck_calls w1 _ m (RowIs.below h1 hw (IRowQ.below hw))).mono ?_
  rintro e w' ⟨rfl, h2⟩
  rw [hc]
  exact ⟨_, rfl, rfl, h2⟩
theorem told_check {r : List Entry} (h2 : MatR w (.slice o2 n2 k2) m) (hq : MatLe m) (hL : Laid w) (hc : checkM m = c) (K : TI w [leafV o1 n1 k1, leafV o2 n2 k2] r) : TI w [leafV o1 n1 k1, leafV o2 n2 k2] ((49, A1 (tg 1), A1 (vi c)) :: r) := by
  refine told_e1 ⟨_, Tryz.func49, rfl⟩ (fun w1 v hw hv => ?_) K
  have hv : v = .slice o2 n2 k2 := hv
  subst hv
  refine (check_calls w1 _ m (RowIs.below h2 hw (IRowR.below hw)) hq (hL.pow.below hw)).mono ?_
  rintro e w' ⟨rfl, h2⟩
  rw [hc]
  exact ⟨_, rfl, rfl, h2⟩
theorem checks_told0 (h1 : MatQ w (.slice o1 n1 k1) m) (h2 : MatR w (.slice o2 n2 k2) m) (hq : MatLe m) (hL : Laid w) (hc : checkM m = 0) : TI w [leafV o1 n1 k1, leafV o2 n2 k2] scr0 :=
  told_rcheck h1 hc <| told_check h2 hq hL hc <| told_awake hL told_nil
theorem checks_told (h1 : MatQ w (.slice o1 n1 k1) m) (h2 : MatR w (.slice o2 n2 k2) m) (hq : MatLe m) (hL : Laid w) (hc : checkM m = c) (h0 : c ≠ 0) : TI w [leafV o1 n1 k1, leafV o2 n2 k2] (scrF c) := by
  refine told_rcheck h1 hc <| told_check h2 hq hL hc <| told_e1 ⟨_, Tryz.func50, rfl⟩ (fun w1 v hw hv => ?_) <| told_e1 ⟨_, Tryz.func51, rfl⟩ (fun w1 v hw hv => ?_) <| told_e2 ⟨_, Tryz.func32, rfl⟩ (fun w1 v u hw hv hu => ?_) <|
    told_e1 ⟨_, Tryz.func27, rfl⟩ (fun w1 v hw hv => ?_) <| told_e1 ⟨_, Tryz.func52, rfl⟩ (fun w1 v hw hv => ?_) <| told_e1 ⟨_, Tryz.func13, rfl⟩ (fun w1 v hw hv => ?_) <| told_awake hL told_nil
  · have hv : v = .slice o2 n2 k2 := hv
    subst hv
    refine (det_err (RowIs.below h2 hw (IRowR.below hw)) hq (hL.below hw) hc h0).mono ?_
    rintro e w' ⟨rfl, h2⟩
    exact ⟨_, rfl, pk2 rfl rfl, h2⟩
  · have hv : v = .slice o2 n2 k2 := hv
    subst hv
    refine (rank_err (RowIs.below h2 hw (IRowR.below hw)) hq (hL.below hw) hc h0).mono ?_
    rintro e w' ⟨rfl, h2⟩
    exact ⟨_, rfl, pk2 rfl rfl, h2⟩
  · have hv : v = .slice o2 n2 k2 := hv
    have hu : some (Value.slice none 0 0) = some u := hu
    cases hu
    subst hv
    refine (solve_err (RowIs.below h2 hw (IRowR.below hw)) hq (hL.below hw) hc h0).mono ?_
    rintro e w' ⟨rfl, h2⟩
    exact ⟨_, rfl, pk3 rfl rfl rfl, h2⟩
  · have hv : v = .slice o2 n2 k2 := hv
    subst hv
    refine (kernel_err (RowIs.below h2 hw (IRowR.below hw)) hq (hL.below hw) hc h0).mono ?_
    rintro e w' ⟨rfl, h2⟩
    exact ⟨_, rfl, pk2 rfl rfl, h2⟩
  · have hv : v = .slice o2 n2 k2 := hv
    subst hv
    refine (inverse_err (RowIs.below h2 hw (IRowR.below hw)) hq (hL.below hw) hc h0).mono ?_
    rintro e w' ⟨rfl, h2⟩
    exact ⟨_, rfl, pk2 rfl rfl, h2⟩
  · have hv : some zeroV = some v := hv
    cases hv
    refine (string_calls w1 _ 0 (ratAt_zero _) (ratLe_zero (by decide)) (hL.pow.below hw)).mono ?_
    rintro e w' ⟨rfl, h2⟩
    rw [textQ_zero]
    exact ⟨_, rfl, rfl, h2⟩
end

/-- What is known of the frame when the rows have been read. -/
def ReadyM (w0 : World) (m : List (List Rat)) (k : Nat) (A : CAct) (W : World) : Prop :=
  ∃ T : Array Value, A = { tmps := T, defers := [] } ∧ T.size = k ∧ T.getD 2 undef = .bool false ∧ MatQ W (T.getD 3 undef) m ∧ MatR W (T.getD 4 undef) m ∧ Below w0.heap.size w0 W

set_option maxRecDepth 100000 in
set_option maxHeartbeats 8000000 in
/-- **NumChecks.** -/
theorem numChecks_walk (w : World) (v : Value) (n : Nat) (rv : Nat → Value) (m : Nat → Nat) (s : Nat → Nat → ByteArray) (h : TabAt w v n rv m s) (hL : Laid w) :
    CallsIn Fence.wide 0 Tryz.prog 8 #[v] w fun e w' => e = .returned (.bool true) ∧ Below w.heap.size w w' := by
  obtain ⟨o, c, rfl, hn9, _⟩ := h.top
  have HT := Hid.intro h
  have HL := Hid.intro hL
  obtain ⟨M, hM⟩ : ∃ M, matOf m s 9 (min n 9) = M := ⟨_, rfl⟩
  have HM := Hid.intro hM
  have HLe : Hid (MatLe M) := Hid.intro (by rw [← hM]; exact matOf_le _ _ _ _)
  clear h hL hM
  refine callsIn_of_wp Tryz.func8 rfl trivial ?_ rfl
  simp only [Tryz.ntmps8, List.size_toArray, List.length_cons, List.length_nil, Nat.reduceAdd, Nat.reduceSub, Array.replicate_succ, Array.replicate_zero, List.push_toArray, List.append_toArray, List.nil_append, List.cons_append]
  refine seq_to (by gi_wp2; exact ⟨rfl, rfl⟩) ?_
  refine seq_by (R := ReadyM w M 107) ?_ ?_
  · gi_wp2_with (gi_at_call 25; refine stop ?_)
    unfold Stop
    refine (matrix_calls w _ n rv m s 9 HT.out (by decide) HL.out).mono ?_
    rintro e w' ⟨v1, v2, rfl, h1, h2, hB⟩
    rw [HM.out] at h1 h2
    obtain ⟨o1, k1, rfl, _⟩ := RowIs.form h1
    obtain ⟨o2, k2, rfl, _⟩ := RowIs.form h2
    have H1 := Hid.intro h1
    have H2 := Hid.intro h2
    have HB := Hid.intro hB
    clear h1 h2 hB
    gi_wp2
    exact ⟨_, rfl, rfl, rfl, H1.out, H2.out, HB.out⟩
  · rintro _ W ⟨T, rfl, hT, t2, t3, t4, hB⟩
    obtain ⟨o1, k1, e1, _⟩ := RowIs.form t3
    obtain ⟨o2, k2, e2, _⟩ := RowIs.form t4
    rw [e1] at t3
    rw [e2] at t4
    have hLW := HL.out.below hB
    have hx : ∀ env : List (Leaf rs3), env = [leafV o1 M.length k1, leafV o2 M.length k2] → PiecesOK (Gs env) (A3 (tg 0) (tg 1) (vb false)) ([3, 4, 2].map fun j => T.getD j undef) W := by
      rintro env rfl
      exact ps3 e1 e2 (show some (Value.bool false) = some (T.getD 2 undef) by rw [t2])
    obtain ⟨c, hc⟩ : ∃ c, checkM M = c := ⟨_, rfl⟩
    by_cases h0 : c = 0
    · subst h0
      exact tail_script (slots := [3, 4, 2]) (ts := A3 (tg 0) (tg 1) (vb false)) follows namesOK (S := [.one, .one]) rfl (checks_told0 t3 t4 HLe.out hLW hc) (n := 60) (fid := 8) (t := 2) rfl (hx _ rfl) (by rw [hT]; kernel_rfl) (fun w' hB2 => ⟨rfl, hB.trans (hB2.mono hB.size)⟩)
    · have hTo := checks_told t3 t4 HLe.out hLW hc h0
      rcases err_three hc h0 with rfl | rfl | rfl
      all_goals exact tail_script (slots := [3, 4, 2]) (ts := A3 (tg 0) (tg 1) (vb false)) follows namesOK (S := [.one, .one]) rfl hTo (n := 60) (fid := 8) (t := 2) rfl (hx _ rfl) (by rw [hT]; kernel_rfl) (fun w' hB2 => ⟨rfl, hB.trans (hB2.mono hB.size)⟩)
end Go.Num
