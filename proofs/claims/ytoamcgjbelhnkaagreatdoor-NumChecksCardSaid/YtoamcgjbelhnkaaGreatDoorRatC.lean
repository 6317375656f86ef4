/-
  Products and quotients of fractions.
  Conditions: the parts are known; the divisor is not 0.
-/
import Derived.Test.YtoamcgjbelhnkaaGreatDoorRatB
namespace Go.Num
open Go.RowKit Go.Proofs Go.Proofs.YtoamcgjbelhnkaaGreatDoor Go.Eng

theorem rat_prod (p q : Rat) : p * q = frac (decide (p.num < 0) != decide (q.num < 0)) (p.num.natAbs * q.num.natAbs) (p.den * q.den) := by
  rw [← frac_times, frac_self, frac_self]
theorem rat_quot (p q : Rat) : p / q = frac (decide (p.num < 0) != decide (q.num < 0)) (p.num.natAbs * q.den) (p.den * q.num.natAbs) := by
  rw [← frac_over, frac_self, frac_self]

set_option maxRecDepth 100000 in
set_option maxHeartbeats 8000000 in
/-- **'times'.** -/
theorem times_calls (w : World) (va vb : Value) (p q : Rat) (L : Nat) (ha : RatAt w va p) (hb : RatAt w vb q) (hp : RatLe p L) (hq : RatLe q L) (hL : L ≤ 1000000) :
    CallsIn Fence.wide 0 Tryz.prog 94 #[va, vb] w fun e w' => ∃ v', e = .returned v' ∧ RatAt w' v' (p * q) ∧ Below w.heap.size w w' := by
  have HA := Hid.intro ha
  have HB := Hid.intro hb
  have HP := Hid.intro hp
  have HQ := Hid.intro hq
  obtain ⟨an, ad, rfl, han, had⟩ := ha
  obtain ⟨bn, bd, rfl, hbn, hbd⟩ := hb
  have HAN := Hid.intro han
  have HBN := Hid.intro hbn
  have hS := rat_prod p q
  obtain ⟨na, hna⟩ : ∃ na, decide (p.num < 0) = na := ⟨_, rfl⟩
  obtain ⟨nb, hnb⟩ : ∃ nb, decide (q.num < 0) = nb := ⟨_, rfl⟩
  rw [hna] at HA hS
  rw [hnb] at HB hS
  rw [hna, hnb]
  have HSum := Hid.intro hS
  clear han had hbn hbd hna hnb hp hq hS
  refine callsIn_of_wp Tryz.func94 rfl trivial ?_ rfl
  simp only [Tryz.ntmps94, List.size_toArray, List.length_cons, List.length_nil, Nat.reduceAdd, Nat.reduceSub, Array.replicate_succ, Array.replicate_zero, List.push_toArray, List.append_toArray, List.nil_append, List.cons_append]
  gi_wp2
  obtain ⟨W, hW⟩ : ∃ W, W = ((w.alloc (Obj.cells #[Value.bool na, an, ad] 25)).alloc (Obj.cells #[Value.bool nb, bn, bd] 25)).alloc (Obj.cells #[Value.bool false, Value.slice none 0 0, Value.slice none 0 0] 25) := ⟨_, rfl⟩
  rw [← hW]
  have HK : Hid (RatKept w W w.heap.size (.bool na) an ad (.bool nb) bn bd) := by
    rw [hW]; exact ratKept_new w _ _ _ _ _ _ _ _ _ _
  replace HA := Hid.intro (HA.out.below HK.out.below)
  replace HB := Hid.intro (HB.out.below HK.out.below)
  replace HAN := Hid.intro (HAN.out.below HK.out.below)
  replace HBN := Hid.intro (HBN.out.below HK.out.below)
  obtain ⟨g, hg⟩ : ∃ g, w.heap.size = g := ⟨_, rfl⟩
  rw [hg] at HK
  rw [hg]
  clear hW
  refine wpIn_region_ow (ro := none) [9, 11, 13, 14, 15, 16] [0, 1, 2, 3, 4, 5, 6, 7, 8, 10, 12, 9, 11, 13, 14, 15, 16] [0, 1, 0, 4, 15, 0, 32, 0, 128, 480, 0, 2016, 0, 8160, 16352, 32767, 65535] follows 21 rfl (by kernel_rfl) (by kernel_rfl) ?_
  replace HK := Hid.intro (HK.out.step (drew_below _))
  replace HA := Hid.intro (HA.out.below (drew_below _))
  replace HB := Hid.intro (HB.out.below (drew_below _))
  replace HAN := Hid.intro (HAN.out.below (drew_below _))
  replace HBN := Hid.intro (HBN.out.below (drew_below _))
  refine OW.fieldAddr rfl rfl f25_0 rfl ?_
  simp only [Go.Act.put, List.setIfInBounds_toArray, List.set_cons_succ, List.set_cons_zero]
  refine OW.load rfl rfl l4 HK.out.bx.c0 rfl ?_
  simp only [Go.Act.put, List.setIfInBounds_toArray, List.set_cons_succ, List.set_cons_zero]
  refine OW.fieldAddr rfl rfl f25_0 rfl ?_
  simp only [Go.Act.put, List.setIfInBounds_toArray, List.set_cons_succ, List.set_cons_zero]
  refine OW.load rfl rfl l4 HK.out.by'.c0 rfl ?_
  simp only [Go.Act.put, List.setIfInBounds_toArray, List.set_cons_succ, List.set_cons_zero]
  refine OW.neqBool rfl rfl ub4 rfl rfl ?_
  simp only [Go.Act.put, List.setIfInBounds_toArray, List.set_cons_succ, List.set_cons_zero]
  refine OW.fieldAddr rfl rfl f25_1 rfl ?_
  simp only [Go.Act.put, List.setIfInBounds_toArray, List.set_cons_succ, List.set_cons_zero]
  refine OW.load rfl rfl l23 HK.out.bx.c1 rfl ?_
  simp only [Go.Act.put, List.setIfInBounds_toArray, List.set_cons_succ, List.set_cons_zero]
  refine OW.fieldAddr rfl rfl f25_1 rfl ?_
  simp only [Go.Act.put, List.setIfInBounds_toArray, List.set_cons_succ, List.set_cons_zero]
  refine OW.load rfl rfl l23 HK.out.by'.c1 rfl ?_
  simp only [Go.Act.put, List.setIfInBounds_toArray, List.set_cons_succ, List.set_cons_zero]
  refine OW.loadAll rfl rfl l25 (cs := [.bool na, an, ad]) rfl (by decide) HK.out.bx rfl ?_
  simp only [Go.Act.put, List.setIfInBounds_toArray, List.set_cons_succ, List.set_cons_zero]
  refine OW.loadAll rfl rfl l25 (cs := [.bool nb, bn, bd]) rfl (by decide) HK.out.by' rfl ?_
  simp only [Go.Act.put, List.setIfInBounds_toArray, List.set_cons_succ, List.set_cons_zero]
  refine OW.call rfl rfl Tryz.func118 rfl namesOK (args := [an, bn]) rfl ?_
  refine (mul_calls W.drew an bn p.num.natAbs q.num.natAbs L HAN.out HBN.out HP.out.1 HQ.out.1 (by omega)).mono ?_
  rintro e w1 ⟨v2, rfl, ⟨hm2, _⟩, hB⟩
  refine ⟨v2, rfl, hB, ?_⟩
  simp only [Go.Act.put, List.setIfInBounds_toArray, List.set_cons_succ, List.set_cons_zero]
  replace HK := Hid.intro (HK.out.step hB)
  replace HA := Hid.intro (HA.out.below hB)
  replace HB := Hid.intro (HB.out.below hB)
  replace HAN := Hid.intro (HAN.out.below hB)
  replace HBN := Hid.intro (HBN.out.below hB)
  have HM2 := Hid.intro hm2
  clear hB
  refine OW.call rfl rfl Tryz.func64 rfl namesOK (args := [.agg #[.bool na, an, ad]]) rfl ?_
  refine (bottom_calls w1 _ p HA.out).mono ?_
  rintro e w2 ⟨v3, rfl, hm3, hB⟩
  refine ⟨v3, rfl, hB, ?_⟩
  simp only [Go.Act.put, List.setIfInBounds_toArray, List.set_cons_succ, List.set_cons_zero]
  replace HK := Hid.intro (HK.out.step hB)
  replace HA := Hid.intro (HA.out.below hB)
  replace HB := Hid.intro (HB.out.below hB)
  replace HAN := Hid.intro (HAN.out.below hB)
  replace HBN := Hid.intro (HBN.out.below hB)
  replace HM2 := Hid.intro (HM2.out.below hB)
  have HM3 := Hid.intro hm3
  clear hB
  refine OW.call rfl rfl Tryz.func64 rfl namesOK (args := [.agg #[.bool nb, bn, bd]]) rfl ?_
  refine (bottom_calls w2 _ q HB.out).mono ?_
  rintro e w3 ⟨v5, rfl, hm5, hB⟩
  refine ⟨v5, rfl, hB, ?_⟩
  simp only [Go.Act.put, List.setIfInBounds_toArray, List.set_cons_succ, List.set_cons_zero]
  replace HK := Hid.intro (HK.out.step hB)
  replace HA := Hid.intro (HA.out.below hB)
  replace HB := Hid.intro (HB.out.below hB)
  replace HAN := Hid.intro (HAN.out.below hB)
  replace HBN := Hid.intro (HBN.out.below hB)
  replace HM2 := Hid.intro (HM2.out.below hB)
  replace HM3 := Hid.intro (HM3.out.below hB)
  have HM5 := Hid.intro hm5
  clear hB
  refine OW.call rfl rfl Tryz.func118 rfl namesOK (args := [v3, v5]) rfl ?_
  refine (mul_calls w3 v3 v5 p.den q.den L HM3.out HM5.out HP.out.2 HQ.out.2 (by omega)).mono ?_
  rintro e w4 ⟨v4, rfl, ⟨hm4, _⟩, hB⟩
  refine ⟨v4, rfl, hB, ?_⟩
  simp only [Go.Act.put, List.setIfInBounds_toArray, List.set_cons_succ, List.set_cons_zero]
  replace HK := Hid.intro (HK.out.step hB)
  replace HA := Hid.intro (HA.out.below hB)
  replace HB := Hid.intro (HB.out.below hB)
  replace HAN := Hid.intro (HAN.out.below hB)
  replace HBN := Hid.intro (HBN.out.below hB)
  replace HM2 := Hid.intro (HM2.out.below hB)
  replace HM3 := Hid.intro (HM3.out.below hB)
  replace HM5 := Hid.intro (HM5.out.below hB)
  have HM4 := Hid.intro hm4
  clear hB
  obtain ⟨X, hX⟩ : ∃ X, p.num.natAbs * q.num.natAbs = X := ⟨_, rfl⟩
  obtain ⟨D, hD⟩ : ∃ D, p.den * q.den = D := ⟨_, rfl⟩
  have hS := HSum.out
  have hX2 : X < B ^ (L + L) := by rw [← hX]; exact prod_len HP.out.1 HQ.out.1
  have hD2 : D < B ^ (L + L) := by rw [← hD]; exact prod_len HP.out.2 HQ.out.2
  have hD0 : D ≠ 0 := by rw [← hD]; exact Nat.mul_ne_zero p.den_nz q.den_nz
  rw [hX, hD] at hS
  rw [hX] at HM2
  rw [hD] at HM4
  replace HSum := Hid.intro hS
  have HX2 := Hid.intro hX2
  have HD2 := Hid.intro hD2
  clear hS hX hD hX2 hD2
  refine OW.call rfl rfl Tryz.func117 rfl namesOK (args := [.bool (na != nb), v2, v4]) rfl ?_
  refine (lowest_calls w4 (na != nb) v2 v4 X D (L + L) HM2.out HM4.out hD0 HX2.out HD2.out (by omega)).mono ?_
  rintro e w5 ⟨v6, rfl, hm6, hB⟩
  refine ⟨v6, rfl, hB, ?_⟩
  simp only [Go.Act.put, List.setIfInBounds_toArray, List.set_cons_succ, List.set_cons_zero]
  replace HK := Hid.intro (HK.out.step hB)
  replace HA := Hid.intro (HA.out.below hB)
  replace HB := Hid.intro (HB.out.below hB)
  replace HAN := Hid.intro (HAN.out.below hB)
  replace HBN := Hid.intro (HBN.out.below hB)
  replace HM2 := Hid.intro (HM2.out.below hB)
  replace HM3 := Hid.intro (HM3.out.below hB)
  replace HM5 := Hid.intro (HM5.out.below hB)
  replace HM4 := Hid.intro (HM4.out.below hB)
  have HR := Hid.intro hm6
  clear hB
  obtain ⟨o, k, c, o2, k2, c2, rfl⟩ := hm6.form
  obtain ⟨f, hf⟩ := HK.out.res
  have hst := run_store25 hf (x := .bool (decide ((frac (na != nb) X D).num < 0))) (y := .slice o k c) (z := .slice o2 k2 c2) rfl rfl rfl
  refine OW.store (w' := set3 w5 (g + 1 + 1) (.bool (decide ((frac (na != nb) X D).num < 0))) (.slice o k c) (.slice o2 k2 c2)) rfl rfl (by decide) (store_run rfl rfl hst) ?_
  simp only [Go.Act.put]
  refine OW.done ?_
  gi_wp2
  refine ret_rat3 rfl rfl (g + 1 + 1) rfl (hf 0 (by omega)).1 (hf 1 (by omega)).1 (hf 2 (by omega)).1 ?_
  refine ⟨_, rfl, ?_, ?_⟩
  · rw [HSum.out]
    exact ((HR.out.setElem HK.out.el (by decide)).setElem (HK.out.el.setCell _ _) (by decide)).setElem ((HK.out.el.setCell _ _).setCell _ _) (by decide)
  · have hle := HK.out.le
    exact ((HK.out.below.setCell (by show w.heap.size ≤ g + 1 + 1; omega) _).setCell (by show w.heap.size ≤ g + 1 + 1; omega) _).setCell (by show w.heap.size ≤ g + 1 + 1; omega) _

set_option maxRecDepth 100000 in
set_option maxHeartbeats 8000000 in
/-- **'over'.** -/
theorem over_calls (w : World) (va vb : Value) (p q : Rat) (L : Nat) (ha : RatAt w va p) (hb : RatAt w vb q) (hp : RatLe p L) (hq : RatLe q L) (hq0 : q.num ≠ 0) (hL : L ≤ 1000000) :
    CallsIn Fence.wide 0 Tryz.prog 76 #[va, vb] w fun e w' => ∃ v', e = .returned v' ∧ RatAt w' v' (p / q) ∧ Below w.heap.size w w' := by
  have HA := Hid.intro ha
  have HB := Hid.intro hb
  have HP := Hid.intro hp
  have HQ := Hid.intro hq
  obtain ⟨an, ad, rfl, han, had⟩ := ha
  obtain ⟨bn, bd, rfl, hbn, hbd⟩ := hb
  have HAN := Hid.intro han
  have HBN := Hid.intro hbn
  have hS := rat_quot p q
  obtain ⟨na, hna⟩ : ∃ na, decide (p.num < 0) = na := ⟨_, rfl⟩
  obtain ⟨nb, hnb⟩ : ∃ nb, decide (q.num < 0) = nb := ⟨_, rfl⟩
  rw [hna] at HA hS
  rw [hnb] at HB hS
  rw [hna, hnb]
  have HSum := Hid.intro hS
  clear han had hbn hbd hna hnb hp hq hS
  refine callsIn_of_wp Tryz.func76 rfl trivial ?_ rfl
  simp only [Tryz.ntmps76, List.size_toArray, List.length_cons, List.length_nil, Nat.reduceAdd, Nat.reduceSub, Array.replicate_succ, Array.replicate_zero, List.push_toArray, List.append_toArray, List.nil_append, List.cons_append]
  gi_wp2
  obtain ⟨W, hW⟩ : ∃ W, W = ((w.alloc (Obj.cells #[Value.bool na, an, ad] 25)).alloc (Obj.cells #[Value.bool nb, bn, bd] 25)).alloc (Obj.cells #[Value.bool false, Value.slice none 0 0, Value.slice none 0 0] 25) := ⟨_, rfl⟩
  rw [← hW]
  have HK : Hid (RatKept w W w.heap.size (.bool na) an ad (.bool nb) bn bd) := by
    rw [hW]; exact ratKept_new w _ _ _ _ _ _ _ _ _ _
  replace HA := Hid.intro (HA.out.below HK.out.below)
  replace HB := Hid.intro (HB.out.below HK.out.below)
  replace HAN := Hid.intro (HAN.out.below HK.out.below)
  replace HBN := Hid.intro (HBN.out.below HK.out.below)
  obtain ⟨g, hg⟩ : ∃ g, w.heap.size = g := ⟨_, rfl⟩
  rw [hg] at HK
  rw [hg]
  clear hW
  refine wpIn_region_ow (ro := none) [8, 9, 11, 14, 15, 16] [0, 1, 2, 3, 4, 5, 6, 7, 10, 12, 13, 8, 9, 11, 14, 15, 16] [0, 1, 0, 4, 15, 0, 32, 0, 128, 480, 0, 2016, 0, 4096, 16352, 32767, 65535] follows 21 rfl (by kernel_rfl) (by kernel_rfl) ?_
  replace HK := Hid.intro (HK.out.step (drew_below _))
  replace HA := Hid.intro (HA.out.below (drew_below _))
  replace HB := Hid.intro (HB.out.below (drew_below _))
  replace HAN := Hid.intro (HAN.out.below (drew_below _))
  replace HBN := Hid.intro (HBN.out.below (drew_below _))
  refine OW.fieldAddr rfl rfl f25_0 rfl ?_
  simp only [Go.Act.put, List.setIfInBounds_toArray, List.set_cons_succ, List.set_cons_zero]
  refine OW.load rfl rfl l4 HK.out.bx.c0 rfl ?_
  simp only [Go.Act.put, List.setIfInBounds_toArray, List.set_cons_succ, List.set_cons_zero]
  refine OW.fieldAddr rfl rfl f25_0 rfl ?_
  simp only [Go.Act.put, List.setIfInBounds_toArray, List.set_cons_succ, List.set_cons_zero]
  refine OW.load rfl rfl l4 HK.out.by'.c0 rfl ?_
  simp only [Go.Act.put, List.setIfInBounds_toArray, List.set_cons_succ, List.set_cons_zero]
  refine OW.neqBool rfl rfl ub4 rfl rfl ?_
  simp only [Go.Act.put, List.setIfInBounds_toArray, List.set_cons_succ, List.set_cons_zero]
  refine OW.fieldAddr rfl rfl f25_1 rfl ?_
  simp only [Go.Act.put, List.setIfInBounds_toArray, List.set_cons_succ, List.set_cons_zero]
  refine OW.load rfl rfl l23 HK.out.bx.c1 rfl ?_
  simp only [Go.Act.put, List.setIfInBounds_toArray, List.set_cons_succ, List.set_cons_zero]
  refine OW.loadAll rfl rfl l25 (cs := [.bool nb, bn, bd]) rfl (by decide) HK.out.by' rfl ?_
  simp only [Go.Act.put, List.setIfInBounds_toArray, List.set_cons_succ, List.set_cons_zero]
  refine OW.loadAll rfl rfl l25 (cs := [.bool na, an, ad]) rfl (by decide) HK.out.bx rfl ?_
  simp only [Go.Act.put, List.setIfInBounds_toArray, List.set_cons_succ, List.set_cons_zero]
  refine OW.fieldAddr rfl rfl f25_1 rfl ?_
  simp only [Go.Act.put, List.setIfInBounds_toArray, List.set_cons_succ, List.set_cons_zero]
  refine OW.load rfl rfl l23 HK.out.by'.c1 rfl ?_
  simp only [Go.Act.put, List.setIfInBounds_toArray, List.set_cons_succ, List.set_cons_zero]
  refine OW.call rfl rfl Tryz.func64 rfl namesOK (args := [.agg #[.bool nb, bn, bd]]) rfl ?_
  refine (bottom_calls W.drew _ q HB.out).mono ?_
  rintro e w1 ⟨v1, rfl, hm, hB⟩
  refine ⟨v1, rfl, hB, ?_⟩
  simp only [Go.Act.put, List.setIfInBounds_toArray, List.set_cons_succ, List.set_cons_zero]
  replace HK := Hid.intro (HK.out.step hB)
  replace HA := Hid.intro (HA.out.below hB)
  replace HB := Hid.intro (HB.out.below hB)
  replace HAN := Hid.intro (HAN.out.below hB)
  replace HBN := Hid.intro (HBN.out.below hB)
  have HM1 := Hid.intro hm
  clear hB
  refine OW.call rfl rfl Tryz.func118 rfl namesOK (args := [an, v1]) rfl ?_
  refine (mul_calls w1 an v1 p.num.natAbs q.den L HAN.out HM1.out HP.out.1 HQ.out.2 (by omega)).mono ?_
  rintro e w2 ⟨v2, rfl, ⟨hm2, _⟩, hB⟩
  refine ⟨v2, rfl, hB, ?_⟩
  simp only [Go.Act.put, List.setIfInBounds_toArray, List.set_cons_succ, List.set_cons_zero]
  replace HK := Hid.intro (HK.out.step hB)
  replace HA := Hid.intro (HA.out.below hB)
  replace HB := Hid.intro (HB.out.below hB)
  replace HAN := Hid.intro (HAN.out.below hB)
  replace HBN := Hid.intro (HBN.out.below hB)
  replace HM1 := Hid.intro (HM1.out.below hB)
  have HM2 := Hid.intro hm2
  clear hB
  refine OW.call rfl rfl Tryz.func64 rfl namesOK (args := [.agg #[.bool na, an, ad]]) rfl ?_
  refine (bottom_calls w2 _ p HA.out).mono ?_
  rintro e w3 ⟨v3, rfl, hm3, hB⟩
  refine ⟨v3, rfl, hB, ?_⟩
  simp only [Go.Act.put, List.setIfInBounds_toArray, List.set_cons_succ, List.set_cons_zero]
  replace HK := Hid.intro (HK.out.step hB)
  replace HA := Hid.intro (HA.out.below hB)
  replace HB := Hid.intro (HB.out.below hB)
  replace HAN := Hid.intro (HAN.out.below hB)
  replace HBN := Hid.intro (HBN.out.below hB)
  replace HM1 := Hid.intro (HM1.out.below hB)
  replace HM2 := Hid.intro (HM2.out.below hB)
  have HM3 := Hid.intro hm3
  clear hB
  refine OW.call rfl rfl Tryz.func118 rfl namesOK (args := [v3, bn]) rfl ?_
  refine (mul_calls w3 v3 bn p.den q.num.natAbs L HM3.out HBN.out HP.out.2 HQ.out.1 (by omega)).mono ?_
  rintro e w4 ⟨v4, rfl, ⟨hm4, _⟩, hB⟩
  refine ⟨v4, rfl, hB, ?_⟩
  simp only [Go.Act.put, List.setIfInBounds_toArray, List.set_cons_succ, List.set_cons_zero]
  replace HK := Hid.intro (HK.out.step hB)
  replace HA := Hid.intro (HA.out.below hB)
  replace HB := Hid.intro (HB.out.below hB)
  replace HAN := Hid.intro (HAN.out.below hB)
  replace HBN := Hid.intro (HBN.out.below hB)
  replace HM1 := Hid.intro (HM1.out.below hB)
  replace HM2 := Hid.intro (HM2.out.below hB)
  replace HM3 := Hid.intro (HM3.out.below hB)
  have HM4 := Hid.intro hm4
  clear hB
  obtain ⟨X, hX⟩ : ∃ X, p.num.natAbs * q.den = X := ⟨_, rfl⟩
  obtain ⟨D, hD⟩ : ∃ D, p.den * q.num.natAbs = D := ⟨_, rfl⟩
  have hS := HSum.out
  have hX2 : X < B ^ (L + L) := by rw [← hX]; exact prod_len HP.out.1 HQ.out.2
  have hD2 : D < B ^ (L + L) := by rw [← hD]; exact prod_len HP.out.2 HQ.out.1
  have hD0 : D ≠ 0 := by rw [← hD]; exact Nat.mul_ne_zero p.den_nz (by omega)
  rw [hX, hD] at hS
  rw [hX] at HM2
  rw [hD] at HM4
  replace HSum := Hid.intro hS
  have HX2 := Hid.intro hX2
  have HD2 := Hid.intro hD2
  clear hS hX hD hX2 hD2
  refine OW.call rfl rfl Tryz.func117 rfl namesOK (args := [.bool (na != nb), v2, v4]) rfl ?_
  refine (lowest_calls w4 (na != nb) v2 v4 X D (L + L) HM2.out HM4.out hD0 HX2.out HD2.out (by omega)).mono ?_
  rintro e w5 ⟨v6, rfl, hm6, hB⟩
  refine ⟨v6, rfl, hB, ?_⟩
  simp only [Go.Act.put, List.setIfInBounds_toArray, List.set_cons_succ, List.set_cons_zero]
  replace HK := Hid.intro (HK.out.step hB)
  replace HA := Hid.intro (HA.out.below hB)
  replace HB := Hid.intro (HB.out.below hB)
  replace HAN := Hid.intro (HAN.out.below hB)
  replace HBN := Hid.intro (HBN.out.below hB)
  replace HM1 := Hid.intro (HM1.out.below hB)
  replace HM2 := Hid.intro (HM2.out.below hB)
  replace HM3 := Hid.intro (HM3.out.below hB)
  replace HM4 := Hid.intro (HM4.out.below hB)
  have HR := Hid.intro hm6
  clear hB
  obtain ⟨o, k, c, o2, k2, c2, rfl⟩ := hm6.form
  obtain ⟨f, hf⟩ := HK.out.res
  have hst := run_store25 hf (x := .bool (decide ((frac (na != nb) X D).num < 0))) (y := .slice o k c) (z := .slice o2 k2 c2) rfl rfl rfl
  refine OW.store (w' := set3 w5 (g + 1 + 1) (.bool (decide ((frac (na != nb) X D).num < 0))) (.slice o k c) (.slice o2 k2 c2)) rfl rfl (by decide) (store_run rfl rfl hst) ?_
  simp only [Go.Act.put]
  refine OW.done ?_
  gi_wp2
  refine ret_rat3 rfl rfl (g + 1 + 1) rfl (hf 0 (by omega)).1 (hf 1 (by omega)).1 (hf 2 (by omega)).1 ?_
  refine ⟨_, rfl, ?_, ?_⟩
  · rw [HSum.out]
    exact ((HR.out.setElem HK.out.el (by decide)).setElem (HK.out.el.setCell _ _) (by decide)).setElem ((HK.out.el.setCell _ _).setCell _ _) (by decide)
  · have hle := HK.out.le
    exact ((HK.out.below.setCell (by show w.heap.size ≤ g + 1 + 1; omega) _).setCell (by show w.heap.size ≤ g + 1 + 1; omega) _).setCell (by show w.heap.size ≤ g + 1 + 1; omega) _
end Go.Num
