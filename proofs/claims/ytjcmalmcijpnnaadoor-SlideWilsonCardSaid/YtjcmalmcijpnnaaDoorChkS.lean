/-
  What 'Sign' of the program answers.
  Conditions: the lists' cells are known.
-/
import Derived.Test.YtjcmalmcijpnnaaDoorChkP
namespace Go.Eng
open Go.RowKit Go.Proofs Go.Proofs.YtjcmalmcijpnnaaDoor

/-- The places of the numbers, as far as the k-th one. -/
def atK (q : Nat → Nat) : Nat → Nat → Nat
  | 0 => fun _ => 0
  | k + 1 => fun j => if j = q k then k else atK q k j
/-- A sign is turned for each pair whose numbers are the other way round. -/
def innerS (f : Nat → Nat) (i : Nat) : Nat → Int → Int
  | 0, s => s
  | k + 1, s => if f i < f k then -(innerS f i k s) else innerS f i k s
def outerS (f : Nat → Nat) : Nat → Int
  | 0 => 1
  | i + 1 => innerS f i i (outerS f i)
theorem innerS_unit (f : Nat → Nat) (i : Nat) {s : Int} (h : s = 1 ∨ s = -1) : ∀ k, innerS f i k s = 1 ∨ innerS f i k s = -1
  | 0 => h
  | k + 1 => by
    have := innerS_unit f i h k
    unfold innerS
    split <;> omega
theorem outerS_unit (f : Nat → Nat) : ∀ k, outerS f k = 1 ∨ outerS f k = -1
  | 0 => .inl rfl
  | k + 1 => innerS_unit f k (outerS_unit f k) k

theorem t3_row {n i : Nat} (hi : i < n) : (madeCells #[Value.int .i64 0] n).toList[i]? = some (.int .i64 0) := by
  simp [madeCells, hi, Nat.mod_one]

/-- The numbers of a position. -/
def numAt (zs : List Int) (i : Nat) : Nat := (zs.getD i 0).toNat
theorem IsPos.num {n : Int} {zs : List Int} (h : IsPos n zs) {i : Nat} (hi : (i : Int) < n) : zs.getD i 0 = ((numAt zs i : Nat) : Int) ∧ (numAt zs i : Int) < n := by
  have hl := h.2.1
  have hi' : i < zs.length := by omega
  have := h.2.2.1 zs[i] (List.getElem_mem hi')
  have e : zs.getD i 0 = zs[i] := by rw [List.getD_eq_getElem?_getD, List.getElem?_eq_getElem hi']; rfl
  unfold numAt
  rw [e]
  omega

theorem IntsAt.cells {w : World} {a : Addr} {n cap : Nat} {zs : List Int} (h : IntsAt w (.slice (some a) n cap) zs) (h0 : 0 < zs.length) : a.block < w.heap.size ∧ ∀ i, i < zs.length → w.cell? (a.add i) = some (.int .i64 (zs.getD i 0)) := by
  rcases h with ⟨h, _⟩ | ⟨a', cap', h, _, _, h2, h3⟩
  · cases h
  · injection h with h _ _
    injection h with h
    subst h
    exact ⟨h2 h0, h3⟩

theorem checkPosition_ok (w : World) (n : Int) (v : Value) (zs : List Int) (hv : IntsAt w v zs) (hp : IsPos n zs) :
    CallsIn Fence.wide 0 Tryd.prog 46 #[.int .i64 n, v] w fun e w' => e = .returned (.int .i64 0) ∧ Below w.heap.size w w' := by
  refine (checkPosition_calls w n v zs hv).mono ?_
  rintro e w' ⟨⟨h, _⟩ | ⟨_, rfl⟩, hB⟩
  · exact absurd hp h
  · exact ⟨rfl, hB⟩

set_option maxRecDepth 100000 in
set_option maxHeartbeats 8000000 in
theorem sign_walk (w : World) (N : Nat) (a b : Addr) (cap cap' : Nat) (P Q : List Int) (hP : IsPos N P) (hQ : IsPos N Q) (hcap : N ≤ cap) (hp : IntsAt w (.slice (some a) N cap) P) (hq : IntsAt w (.slice (some b) N cap') Q) :
    CallsIn Fence.wide 0 Tryd.prog 34 #[.int .i64 (N : Int), .slice (some a) N cap, .slice (some b) N cap'] w fun e w' => e = .returned (.tuple #[.int .i64 (outerS (fun k => atK (numAt Q) N (numAt P k)) N), .int .i64 0]) ∧ Below w.heap.size w w' := by
  have hN : 2 ≤ N ∧ N ≤ 9 := by have := hP.1; omega
  have hPl : P.length = N := by have := hP.2.1; omega
  have hQl : Q.length = N := by have := hQ.2.1; omega
  have HPp := Hid.intro hP
  have HQp := Hid.intro hQ
  have HP := Hid.intro hp
  have HQ := Hid.intro hq
  have HPl := Hid.intro hPl
  have HQl := Hid.intro hQl
  clear hP hQ hp hq hPl hQl
  refine callsIn_of_wp Tryd.func34 rfl trivial ?_ rfl
  simp only [Tryd.ntmps34, List.size_toArray, List.length_cons, List.length_nil, Nat.reduceAdd, Nat.reduceSub, Array.replicate_succ, Array.replicate_zero, List.push_toArray, List.append_toArray, List.nil_append, List.cons_append]
  gi_wp2
  obtain ⟨W1, hW1⟩ : ∃ W1, W1 = w.alloc (.cells #[.slice (some a) N cap, .slice (some b) N cap'] 38) := ⟨_, rfl⟩
  rw [← hW1]
  have hB1 : Below w.heap.size w W1 := by rw [hW1]; exact (Below.refl _ _).alloc (Nat.le_refl _) _
  have hs1 : w.heap.size < W1.heap.size := by rw [hW1]; simp
  have hcell0 : W1.cell? ⟨w.heap.size, 0, none⟩ = some (.slice (some a) N cap) := by rw [hW1]; exact World.cell?_alloc_new _ _ _ _
  have hcell1 : W1.cell? ⟨w.heap.size, 1, none⟩ = some (.slice (some b) N cap') := by rw [hW1]; exact World.cell?_alloc_new _ _ _ _
  have HC1 := Hid.intro hcell1
  have HB1 := Hid.intro hB1
  have HK0 := Hid.intro (checkPosition_ok W1 N _ P (HP.out.below hB1) HPp.out)
  clear hW1 hB1 hcell1
  refine wpIn_loop_rounds 3 ?_
  rw [roundsIn_succ]
  gi_wp2_with (gi_at_call 46; refine HK0.out.mono ?_; rintro e W2 ⟨rfl, hB2⟩)
  have hB3 := HB1.out.trans (hB2.mono HB1.out.size)
  have hcell2 : W2.cell? ⟨w.heap.size, 1, none⟩ = some (.slice (some b) N cap') := (hB2.cell (p := ⟨w.heap.size, 1, none⟩) hs1).trans HC1.out
  have HK1 := Hid.intro (checkPosition_ok W2 N _ Q (HQ.out.below hB3) HQp.out)
  have HB3 := Hid.intro hB3
  clear hB2 hB3
  rw [roundsIn_succ]
  gi_wp2_with (gi_at_call 46; refine HK1.out.mono ?_; rintro e W3 ⟨rfl, hB2⟩)
  have HB4 := Hid.intro (HB3.out.trans (hB2.mono HB3.out.size))
  clear hB2 hcell0 hcell2
  rw [roundsIn_succ]
  gi_wp2_with (gi_at_make; refine wpListIn_make_full _ rfl _ _ _ rfl w.heap.size 3 Tryd.t3 _ 1 u38 t3_info t3_zero t3_size _ _ _ _ N rfl rfl rfl rfl (by rw [t3_bytes]; omega) (by unfold maxLen; omega) HB4.out.size ?_)
  intro W4 hown hgrow
  obtain ⟨g, hg'⟩ : ∃ g, W3.heap.size = g := ⟨_, rfl⟩
  have hg : w.heap.size ≤ g := by rw [← hg']; exact HB4.out.size
  rw [hg'] at hown ⊢
  have HA4 : Hid (ArrAt W4 g N fun j => .int .i64 ((atK (numAt Q) 0 j : Nat) : Int)) := ArrAt.of_row hown fun i hi => t3_row hi
  have HB5 : Hid (Below w.heap.size w W4) := HB4.out.grown hgrow HB4.out.size (fun _ h => by cases h)
  clear hown hgrow HB4 HB3 HC1 HB1 HK0 HK1 hs1 hg'
  gi_wp2
  gi_loopw [38] (fun i wr => ∃ k : Nat, k ≤ N ∧ i = .int .i64 (k : Int) ∧ Hid (Below w.heap.size w wr) ∧ Hid (ArrAt wr g N fun j => .int .i64 ((atK (numAt Q) k j : Nat) : Int))) (fun i _ => N - (intOf i).toNat)
  case atStart => exact ⟨0, by omega, rfl, HB5.out, HA4.out⟩
  case round =>
    obtain ⟨k, hk, rfl, HBk, HAk⟩ := hrel
    clear HB5 HA4
    by_cases hlt : k < N
    · obtain ⟨hbB, hbc⟩ := HQ.out.cells (by have := HQl.out; omega)
      obtain ⟨hq1, hq2⟩ := HQp.out.num (i := k) (by omega)
      have hc := (HBk.out.cell (p := b.add k) (by rw [add_block]; exact hbB)).trans (hbc k (by have := HQl.out; omega))
      rw [hq1] at hc
      obtain ⟨y, hy⟩ : ∃ y, numAt Q k = y := ⟨_, rfl⟩
      rw [hy] at hc hq2
      have hyN : y < N := by omega
      have HY := Hid.intro hy
      have z0 := (HAk.out y hyN).1
      have z1 := (HAk.out y hyN).2
      clear hbc hq1 hq2 hy
      gi_wp2
      refine ⟨⟨k + 1, by omega, by go_num, HBk.out.setCell hg _, ?_⟩, by simp [intOf]; omega⟩
      refine (HAk.out.set hyN _).congr fun j _ => ?_
      simp only [atK, HY.out]
      split <;> rfl
    · have hkN : k = N := by omega
      subst hkN
      obtain ⟨f, hf⟩ : ∃ f, f = (fun i => atK (numAt Q) k (numAt P i)) := ⟨_, rfl⟩
      have HF := Hid.intro hf
      clear hf
      gi_wp2
      gi_loopw [14, 50] (fun s i wr' => ∃ i' : Nat, i' ≤ k ∧ i = .int .i64 (i' : Int) ∧ s = .int .i64 (outerS f i') ∧ Hid (Below w.heap.size w wr') ∧ Hid (ArrAt wr' g k fun j => .int .i64 ((atK (numAt Q) k j : Nat) : Int))) (fun _ i _ => k - (intOf i).toNat)
      case atStart => exact ⟨0, by omega, rfl, rfl, HBk.out, HAk.out⟩
      case round =>
        obtain ⟨i, hi, rfl, rfl, HBi, HAi⟩ := hrel
        clear HBk HAk
        by_cases hlt2 : i < k
        · obtain ⟨haB, hac⟩ := HP.out.cells (by have := HPl.out; omega)
          obtain ⟨hp1, hp2⟩ := HPp.out.num (i := i) (by omega)
          have hc := (HBi.out.cell (p := a.add i) (by rw [add_block]; exact haB)).trans (hac i (by have := HPl.out; omega))
          rw [hp1] at hc
          obtain ⟨x, hx⟩ : ∃ x, numAt P i = x := ⟨_, rfl⟩
          rw [hx] at hc hp2
          have hxN : x < k := by omega
          have HX := Hid.intro hx
          obtain ⟨S, hS⟩ : ∃ S, outerS f i = S := ⟨_, rfl⟩
          rw [hS]
          have hu := outerS_unit f i
          rw [hS] at hu
          have HS := Hid.intro hS
          clear hac hp1 hp2 hx hS
          gi_wp2
          gi_loopw [14, 59] (fun s j wr' => ∃ j' : Nat, j' ≤ i ∧ j = .int .i64 (j' : Int) ∧ s = .int .i64 (innerS f i j' S) ∧ Hid (Below w.heap.size w wr') ∧ Hid (ArrAt wr' g k fun j => .int .i64 ((atK (numAt Q) k j : Nat) : Int))) (fun _ j _ => i - (intOf j).toNat)
          case atStart => exact ⟨0, by omega, rfl, rfl, HBi.out, HAi.out⟩
          case round =>
            obtain ⟨j, hj, rfl, rfl, HBj, HAj⟩ := hrel
            clear HBi HAi
            by_cases hlt3 : j < i
            · obtain ⟨haB, hac⟩ := HP.out.cells (by have := HPl.out; omega)
              obtain ⟨hp1, hp2⟩ := HPp.out.num (i := j) (by omega)
              have hc := (HBj.out.cell (p := a.add j) (by rw [add_block]; exact haB)).trans (hac j (by have := HPl.out; omega))
              rw [hp1] at hc
              obtain ⟨y, hy⟩ : ∃ y, numAt P j = y := ⟨_, rfl⟩
              rw [hy] at hc hp2
              have hyN : y < k := by omega
              have HY := Hid.intro hy
              obtain ⟨T, hT⟩ : ∃ T, innerS f i j S = T := ⟨_, rfl⟩
              rw [hT]
              have hv := innerS_unit f i hu j
              rw [hT] at hv
              have hv1 : -1 ≤ T := by omega
              have hv2 : T ≤ 1 := by omega
              have HT := Hid.intro hT
              have zx : wr.cell? ⟨g, x, none⟩ = some (.int .i64 ((atK (numAt Q) k x : Nat) : Int)) := (HAj.out x hxN).1
              have zy : wr.cell? ⟨g, y, none⟩ = some (.int .i64 ((atK (numAt Q) k y : Nat) : Int)) := (HAj.out y hyN).1
              obtain ⟨fx, hfx⟩ : ∃ fx, atK (numAt Q) k x = fx := ⟨_, rfl⟩
              obtain ⟨fy, hfy⟩ : ∃ fy, atK (numAt Q) k y = fy := ⟨_, rfl⟩
              rw [hfx] at zx
              rw [hfy] at zy
              have e1 : f i = fx := by rw [HF.out]; show atK _ _ (numAt P i) = _; rw [HX.out, hfx]
              have e2 : f j = fy := by rw [HF.out]; show atK _ _ (numAt P j) = _; rw [hy, hfy]
              have HST : Hid (innerS f i (j + 1) S = if fx < fy then -T else T) := by
                show (if f i < f j then -(innerS f i j S) else innerS f i j S) = _
                rw [e1, e2, hT]
              clear hac hp1 hp2 hy hT hv hfx hfy e1 e2
              gi_wp2
              gi_region
              gi_wp2
              case roundEnd =>
                refine ⟨⟨j + 1, by omega, by go_num, ?_, HBj.out.drew, HAj.out⟩, by simp [intOf]; omega⟩
                rw [HST.out, if_pos (by assumption)]
              case roundEnd =>
                refine ⟨⟨j + 1, by omega, by go_num, ?_, HBj.out.drew, HAj.out⟩, by simp [intOf]; omega⟩
                rw [HST.out, if_neg (by assumption)]
            · gi_wp2
              have hji : j = i := by omega
              subst hji
              refine ⟨⟨j + 1, by omega, by go_num, ?_, HBj.out, HAj.out⟩, by simp [intOf]; omega⟩
              rw [← HS.out]; rfl
        · gi_wp2
          all_goals (first | go_returns | go_ret | go_end0)
          have hik : i = k := by omega
          subst hik
          exact ⟨by rw [HF.out]; rfl, HBi.out⟩

/-- What 'Sign' answers: the sign, or an error. -/
def SignPost (w : World) (n : Int) (P Q : List Int) (e : Ending) (w' : World) : Prop :=
  Below w.heap.size w w' ∧ ((¬ (IsPos n P ∧ IsPos n Q) ∧ e = .returned (.tuple #[.int .i64 0, .int .i64 1])) ∨
    (IsPos n P ∧ IsPos n Q ∧ e = .returned (.tuple #[.int .i64 (outerS (fun k => atK (numAt Q) n.toNat (numAt P k)) n.toNat), .int .i64 0])))

theorem checkPosition_no (w : World) (n : Int) (v : Value) (zs : List Int) (hv : IntsAt w v zs) (hp : ¬ IsPos n zs) :
    CallsIn Fence.wide 0 Tryd.prog 46 #[.int .i64 n, v] w fun e w' => e = .returned (.int .i64 1) ∧ Below w.heap.size w w' := by
  refine (checkPosition_calls w n v zs hv).mono ?_
  rintro e w' ⟨⟨_, rfl⟩ | ⟨h, _⟩, hB⟩
  · exact ⟨rfl, hB⟩
  · exact absurd hp h

set_option maxRecDepth 100000 in
set_option maxHeartbeats 8000000 in
theorem sign_err (w : World) (n : Int) (v u : Value) (P Q : List Int) (hp : IntsAt w v P) (hq : IntsAt w u Q) (hno : ¬ (IsPos n P ∧ IsPos n Q)) :
    CallsIn Fence.wide 0 Tryd.prog 34 #[.int .i64 n, v, u] w fun e w' => e = .returned (.tuple #[.int .i64 0, .int .i64 1]) ∧ Below w.heap.size w w' := by
  obtain ⟨o1, c1, rfl⟩ := hp.form
  obtain ⟨o2, c2, rfl⟩ := hq.form
  have HP := Hid.intro hp
  have HQ := Hid.intro hq
  have HNO := Hid.intro hno
  clear hp hq hno
  refine callsIn_of_wp Tryd.func34 rfl trivial ?_ rfl
  simp only [Tryd.ntmps34, List.size_toArray, List.length_cons, List.length_nil, Nat.reduceAdd, Nat.reduceSub, Array.replicate_succ, Array.replicate_zero, List.push_toArray, List.append_toArray, List.nil_append, List.cons_append]
  refine cut3 fun z => ?_
  gi_wp2
  obtain ⟨W1, hW1⟩ : ∃ W1, W1 = w.alloc (.cells #[.slice o1 P.length c1, .slice o2 Q.length c2] 38) := ⟨_, rfl⟩
  rw [← hW1]
  have hB1 : Below w.heap.size w W1 := by rw [hW1]; exact (Below.refl _ _).alloc (Nat.le_refl _) _
  have hs1 : w.heap.size < W1.heap.size := by rw [hW1]; simp
  have hcell0 : W1.cell? ⟨w.heap.size, 0, none⟩ = some (.slice o1 P.length c1) := by rw [hW1]; exact World.cell?_alloc_new _ _ _ _
  have hcell1 : W1.cell? ⟨w.heap.size, 1, none⟩ = some (.slice o2 Q.length c2) := by rw [hW1]; exact World.cell?_alloc_new _ _ _ _
  have HC1 := Hid.intro hcell1
  have HB1 := Hid.intro hB1
  clear hW1 hcell1
  refine wpIn_loop_rounds 3 ?_
  rw [roundsIn_succ]
  by_cases hPp : IsPos n P
  · have hQn : ¬ IsPos n Q := fun q => HNO.out ⟨hPp, q⟩
    have HK0 := Hid.intro (checkPosition_ok W1 n _ P (HP.out.below hB1) hPp)
    have HQN := Hid.intro hQn
    clear hPp hQn hB1
    gi_wp2_with (gi_at_call 46; refine HK0.out.mono ?_; rintro e W2 ⟨rfl, hB2⟩)
    have hB3 := HB1.out.trans (hB2.mono HB1.out.size)
    have hcell2 : W2.cell? ⟨w.heap.size, 1, none⟩ = some (.slice o2 Q.length c2) := (hB2.cell (p := ⟨w.heap.size, 1, none⟩) hs1).trans HC1.out
    have HK1 := Hid.intro (checkPosition_no W2 n _ Q (HQ.out.below hB3) HQN.out)
    have HB3 := Hid.intro hB3
    clear hB2 hB3
    rw [roundsIn_succ]
    gi_wp2_with (gi_at_call 46; refine HK1.out.mono ?_; rintro e W3 ⟨rfl, hB2⟩)
    all_goals (first | go_returns | go_ret | go_end0)
    exact ⟨rfl, HB3.out.trans (hB2.mono HB3.out.size)⟩
  · have HK0 := Hid.intro (checkPosition_no W1 n _ P (HP.out.below hB1) hPp)
    clear hPp hB1
    gi_wp2_with (gi_at_call 46; refine HK0.out.mono ?_; rintro e W2 ⟨rfl, hB2⟩)
    all_goals (first | go_returns | go_ret | go_end0)
    exact ⟨rfl, HB1.out.trans (hB2.mono HB1.out.size)⟩

/-- **'Sign' of the program.** -/
theorem sign_calls (w : World) (n : Int) (v u : Value) (P Q : List Int) (hp : IntsAt w v P) (hq : IntsAt w u Q) :
    CallsIn Fence.wide 0 Tryd.prog 34 #[.int .i64 n, v, u] w fun e w' => SignPost w n P Q e w' := by
  by_cases h : IsPos n P ∧ IsPos n Q
  · obtain ⟨h1, h2⟩ := h
    obtain ⟨N, rfl⟩ : ∃ N : Nat, n = (N : Int) := ⟨n.toNat, by have := h1.1; omega⟩
    have l1 : P.length = N := by have := h1.2.1; omega
    have l2 : Q.length = N := by have := h2.2.1; omega
    have hN := h1.1
    have hp0 := hp
    have hq0 := hq
    rcases hp with ⟨rfl, rfl⟩ | ⟨a, cap, rfl, hcap, hl, ha, hc⟩
    · simp at l1; omega
    · rcases hq with ⟨rfl, rfl⟩ | ⟨b, cap', rfl, hcap', hl', hb, hc'⟩
      · simp at l2; omega
      · rw [l1] at hp0 hcap ⊢
        rw [l2] at hq0 ⊢
        refine (sign_walk w N a b cap cap' P Q h1 h2 hcap hp0 hq0).mono ?_
        rintro e w' ⟨rfl, hB⟩
        exact ⟨hB, .inr ⟨h1, h2, rfl⟩⟩
  · refine (sign_err w n v u P Q hp hq h).mono ?_
    rintro e w' ⟨rfl, hB⟩
    exact ⟨hB, .inl ⟨h, rfl⟩⟩
end Go.Eng
