/-
  What 'Sign' of the reference answers.
  Conditions: the lists are positions; their cells are known.
-/
import Derived.Test.YtjcmalmcijpnnaaDoorBrdG
import Derived.Test.YtjcmalmcijpnnaaDoorChkW
namespace Go.Eng
open Go.RowKit Go.Proofs Go.Proofs.YtjcmalmcijpnnaaDoor

def setK (p q : Nat → Nat) : Nat → Nat → Nat
  | 0 => fun _ => 0
  | k + 1 => fun j => if j = p k then q k else setK p q k j

set_option maxRecDepth 100000 in
set_option maxHeartbeats 8000000 in
theorem refSign_walk (w : World) (N : Nat) (a b : Addr) (cap cap' : Nat) (P Q : List Int) (hP : IsPos N P) (hQ : IsPos N Q) (hp : IntsAt w (.slice (some a) N cap) P) (hq : IntsAt w (.slice (some b) N cap') Q) :
    CallsIn Fence.wide 0 Tryd.prog 39 #[.slice (some a) N cap, .slice (some b) N cap'] w fun e w' => e = .returned (.int .i64 (outerR (setK (numAt P) (numAt Q) N) N N)) ∧ Below w.heap.size w w' := by
  have hN : 2 ≤ N ∧ N ≤ 9 := by have := hP.1; omega
  have hPl : P.length = N := by have := hP.2.1; omega
  have hQl : Q.length = N := by have := hQ.2.1; omega
  have HPp := Hid.intro hP
  have HQp := Hid.intro hQ
  have HP := Hid.intro hp
  have HQ := Hid.intro hq
  have HPl := Hid.intro hPl
  have HQl := Hid.intro hQl
  clear hP hQ hp hq hPl hQl
  refine callsIn_of_wp Tryd.func39 rfl trivial ?_ rfl
  simp only [Tryd.ntmps39, List.size_toArray, List.length_cons, List.length_nil, Nat.reduceAdd, Nat.reduceSub, Array.replicate_succ, Array.replicate_zero, List.push_toArray, List.append_toArray, List.nil_append, List.cons_append]
  gi_wp2_with (gi_at_make; refine stop ?_)
  unfold Stop
  refine wpListIn_make_full _ rfl _ _ _ rfl w.heap.size 3 Tryd.t3 _ 1 Go.Eng.u38 t3_info t3_zero t3_size _ _ _ _ N rfl rfl rfl rfl (by rw [t3_bytes]; omega) (by unfold maxLen; omega) (Nat.le_refl _) ?_
  intro W4 hown hgrow
  obtain ⟨g, hg'⟩ : ∃ g, w.heap.size = g := ⟨_, rfl⟩
  have HA4 : Hid (ArrAt W4 g N fun j => .int .i64 ((setK (numAt P) (numAt Q) 0 j : Nat) : Int)) := by rw [← hg']; exact ArrAt.of_row hown fun i hi => t3_row (by omega)
  have HB5 : Hid (Below w.heap.size w W4) := (Below.refl _ w).grown hgrow (Nat.le_refl _) (fun _ h => by cases h)
  have hg : w.heap.size ≤ g := by omega
  rw [hg']
  clear hown hgrow hg'
  gi_wp2
  gi_loopw [7] (fun i wr => ∃ k : Nat, k ≤ N ∧ i = .int .i64 (k : Int) ∧ Hid (Below w.heap.size w wr) ∧ Hid (ArrAt wr g N fun j => .int .i64 ((setK (numAt P) (numAt Q) k j : Nat) : Int))) (fun i _ => N - (intOf i).toNat)
  case atStart => exact ⟨0, by omega, rfl, HB5.out, HA4.out⟩
  case round =>
    obtain ⟨k, hk, rfl, HBk, HAk⟩ := hrel
    clear HB5 HA4
    by_cases hlt : k < N
    · obtain ⟨haB, hac⟩ := HP.out.cells (by have := HPl.out; omega)
      obtain ⟨hp1, hp2⟩ := HPp.out.num (i := k) (by omega)
      have hca := (HBk.out.cell (p := a.add k) (by rw [add_block]; exact haB)).trans (hac k (by have := HPl.out; omega))
      rw [hp1] at hca
      obtain ⟨hbB, hbc⟩ := HQ.out.cells (by have := HQl.out; omega)
      obtain ⟨hq1, hq2⟩ := HQp.out.num (i := k) (by omega)
      have hcb := (HBk.out.cell (p := b.add k) (by rw [add_block]; exact hbB)).trans (hbc k (by have := HQl.out; omega))
      rw [hq1] at hcb
      obtain ⟨x, hx⟩ : ∃ x, numAt P k = x := ⟨_, rfl⟩
      obtain ⟨y, hy⟩ : ∃ y, numAt Q k = y := ⟨_, rfl⟩
      rw [hx] at hca hp2
      rw [hy] at hcb
      have hxN : x < N := by omega
      have HX := Hid.intro hx
      have HY := Hid.intro hy
      have z0 := (HAk.out x hxN).1
      have z1 := (HAk.out x hxN).2
      clear hac hbc hp1 hq1 hq2 hp2 hx hy
      gi_wp2
      gi_region
      gi_wp2
      refine ⟨⟨k + 1, by omega, by go_num, (HBk.out.setCell hg _).drew, ?_⟩, by simp [intOf]; omega⟩
      refine ArrAt.congr (HAk.out.set hxN (.int .i64 (y : Int))) fun j _ => ?_
      simp only [setK, HX.out, HY.out]
      split <;> rfl
    · have hkN : k = N := by omega
      subst hkN
      obtain ⟨f, hf⟩ : ∃ f, f = setK (numAt P) (numAt Q) k := ⟨_, rfl⟩
      have HF := Hid.intro hf
      rw [← hf] at HAk
      clear hf
      gi_wp2
      gi_loopw [8, 9] (fun s i wr' => ∃ i' : Nat, i' ≤ k ∧ i = .int .i64 (i' : Int) ∧ s = .int .i64 (outerR f k i') ∧ Hid (Below w.heap.size w wr') ∧ Hid (ArrAt wr' g k fun j => .int .i64 ((f j : Nat) : Int))) (fun _ i _ => k - (intOf i).toNat)
      case atStart => exact ⟨0, by omega, rfl, rfl, HBk.out, HAk.out⟩
      case round =>
        obtain ⟨i, hi, rfl, rfl, HBi, HAi⟩ := hrel
        clear HBk HAk
        by_cases hlt2 : i < k
        · obtain ⟨S, hS⟩ : ∃ S, outerR f k i = S := ⟨_, rfl⟩
          have hu := outerR_unit f k i
          rw [hS] at hu ⊢
          have HS := Hid.intro hS
          clear hS
          gi_wp2
          gi_loopw [8, 10] (fun s j wr' => ∃ m : Nat, i + 1 + m ≤ k ∧ j = .int .i64 ((i + 1 + m : Nat) : Int) ∧ s = .int .i64 (innerR f i m S) ∧ Hid (Below w.heap.size w wr') ∧ Hid (ArrAt wr' g k fun j => .int .i64 ((f j : Nat) : Int))) (fun _ j _ => k - (intOf j).toNat)
          case atStart => exact ⟨0, by omega, congrArg (Value.int .i64) (by omega), rfl, HBi.out, HAi.out⟩
          case round =>
            obtain ⟨m, hm, rfl, rfl, HBj, HAj⟩ := hrel
            clear HBi HAi
            obtain ⟨j, hj⟩ : ∃ j, i + 1 + m = j := ⟨_, rfl⟩
            rw [hj] at hm ⊢
            have HJ := Hid.intro hj
            have hij : i < j := by omega
            clear hj
            by_cases hlt3 : j < k
            · obtain ⟨T, hT⟩ : ∃ T, innerR f i m S = T := ⟨_, rfl⟩
              rw [hT]
              have hv := innerR_unit f i hu m
              rw [hT] at hv
              have hv1 : -1 ≤ T := by omega
              have hv2 : T ≤ 1 := by omega
              have HST : Hid (innerR f i (m + 1) S = if f j < f i then -T else T) := by
                show (if f (i + 1 + m) < f i then -(innerR f i m S) else innerR f i m S) = _
                rw [hT, HJ.out]
              have zx : wr.cell? ⟨g, i, none⟩ = some (.int .i64 ((f i : Nat) : Int)) := (HAj.out i hlt2).1
              have zy : wr.cell? ⟨g, j, none⟩ = some (.int .i64 ((f j : Nat) : Int)) := (HAj.out j hlt3).1
              obtain ⟨fx, hfx⟩ : ∃ fx, f i = fx := ⟨_, rfl⟩
              obtain ⟨fy, hfy⟩ : ∃ fy, f j = fy := ⟨_, rfl⟩
              rw [hfx] at zx HST
              rw [hfy] at zy HST
              clear hT hv hfx hfy
              gi_wp2
              gi_region
              gi_wp2
              case roundEnd =>
                refine ⟨⟨m + 1, by have := HJ.out; omega, congrArg (Value.int .i64) (by have := HJ.out; omega), ?_, HBj.out.drew, HAj.out⟩, by simp [intOf]; omega⟩
                rw [HST.out, if_pos (by assumption)]
              case roundEnd =>
                refine ⟨⟨m + 1, by have := HJ.out; omega, congrArg (Value.int .i64) (by have := HJ.out; omega), ?_, HBj.out.drew, HAj.out⟩, by simp [intOf]; omega⟩
                rw [HST.out, if_neg (by assumption)]
            · gi_wp2
              refine ⟨⟨i + 1, by omega, by go_num, ?_, HBj.out, HAj.out⟩, by simp [intOf]; omega⟩
              show _ = Value.int .i64 (innerR f i (k - (i + 1)) (outerR f k i))
              rw [HS.out]
              have : m = k - (i + 1) := by have := HJ.out; omega
              rw [this]
        · gi_wp2
          all_goals (first | go_returns | go_ret | go_end0)
          have hik : i = k := by omega
          subst hik
          exact ⟨by rw [HF.out]; rfl, HBi.out⟩
end Go.Eng
