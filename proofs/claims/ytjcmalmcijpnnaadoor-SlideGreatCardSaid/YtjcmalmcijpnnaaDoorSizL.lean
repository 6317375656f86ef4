/-
  The law SlideSizes.
  Conditions: none.
-/
import Derived.Test.YtjcmalmcijpnnaaDoorGroX
import Derived.Test.YtjcmalmcijpnnaaDoorFarX
import Derived.Test.YtjcmalmcijpnnaaDoorChkX
import Derived.Test.YtjcmalmcijpnnaaDoorChkW
import Derived.Test.YtjcmalmcijpnnaaDoorBrdH
namespace Go.Eng
open Go.RowKit Go.Proofs Go.Proofs.YtjcmalmcijpnnaaDoor

set_option maxRecDepth 100000 in
set_option maxHeartbeats 16000000 in
/-- **The law SlideSizes.** -/
theorem sizes_calls {w : World} (hw : TabsIn w) (n : Int) (v : Value) (ps : List (Int × Int)) (hv : PairsAt w v ps) :
    CallsIn Fence.wide 0 Tryd.prog 4 #[.int .i64 n, v] w fun e w' => e = .returned (.bool true) ∧ Below w.heap.size w w' := by
  have HW := Hid.intro hw
  have HTm := Hid.intro (tame_walk w n v ps hv 8 (by omega))
  clear hw hv
  refine callsIn_of_wp Tryd.func4 rfl trivial ?_ rfl
  simp only [Tryd.ntmps4, List.size_toArray, List.length_cons, List.length_nil, Nat.reduceAdd, Nat.reduceSub, Array.replicate_succ, Array.replicate_zero, List.push_toArray, List.append_toArray, List.nil_append, List.cons_append]
  gi_wp2_with (gi_at_call 17; refine HTm.out.mono ?_; rintro e w2 ⟨N, x, qs, hN, rfl, hx, hql, hb, hB⟩; have HX := Hid.intro hx; have HBo := Hid.intro hb; have HB := Hid.intro hB; clear hx hb hB; refine stop ?_)
  unfold Stop
  have hN9 : 2 ≤ N ∧ N ≤ 9 := by omega
  have HSz := Hid.intro (size_calls w2 (HW.out.below HB.out) N hN9 x qs HX.out (by omega) HBo.out)
  have hx5 := HX.out
  rw [← ints_nats HBo.out.1] at hx5
  obtain ⟨ox, cx, rfl, hed⟩ := hx5.edges
  have HED := Hid.intro hed
  have HRf : Hid (∀ w', Below w2.heap.size w2 w' → CallsIn Fence.wide 0 Tryd.prog 19 #[.int .i64 (N : Int), .slice ox (nats qs).length cx] w' fun e w'' => SizeSaid (nats qs) N e ∧ Below w'.heap.size w' w'') := fun w' hb =>
    refSize_calls w' N hN9 ox cx (nats qs) (HED.out.below hb) (by rw [nats_len]; omega) (nats_mem HBo.out.1)
  have HLaw : Hid (∀ cnt most last cnt' most' last' st, Bfs (Mov (nats qs) N) (idF N) cnt most last → FarEnd (nats qs) N (idF N) st cnt' most' last' → cnt / N = sizedF N st (N - 1) (idF N)) := fun cnt most last cnt' most' last' st h1 h2 => by
    have h3 := (h1.unique h2.bfs).1
    have h4 := size_law hN9 HBo.out h2
    rw [h3, h4]
    exact Nat.mul_div_cancel_left _ (by omega)
  clear hx5 hed
  gi_wp2_with (first
    | (gi_at_call 18; refine HSz.out.mono ?_; rintro e w3 ⟨⟨cnt, most, last, hbf, rfl⟩, hB3⟩; have HBF := Hid.intro hbf; have HB3 := Hid.intro hB3; obtain ⟨S, hS⟩ : ∃ S, cnt / N = S := ⟨_, rfl⟩; rw [hS]; have HSE := Hid.intro hS; clear hbf hB3 hS)
    | (gi_at_call 19; refine (HRf.out _ HB3.out).mono ?_; rintro e w4 ⟨⟨st, c4, m4, l4, hfe, rfl⟩, hB4⟩; rw [← HLaw.out _ _ _ _ _ _ _ HBF.out hfe, HSE.out]; have HB4 := Hid.intro (HB.out.trans ((HB3.out.trans (hB4.mono HB3.out.size)).mono HB.out.size)); have H16 := Hid.intro (ser16 (HW.out.below HB4.out)); clear hfe hB4)
    | (gi_at_call 16; refine (H16.out _ (Below.refl _ _)).mono ?_; rintro e w5 ⟨rfl, hB5⟩; have HB5 := Hid.intro (HB4.out.trans (hB5.mono HB4.out.size)); clear hB5))
  all_goals (first | go_returns | go_ret | go_end0)
  exact ⟨rfl, HB5.out⟩
end Go.Eng
