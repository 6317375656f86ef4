/-
  A function is run on pieces and a pointer to a value of three cells that lies in memory already and is only read. Rows multiplied outwards: 
  Conditions: see each statement.
-/
import Derived.Test.YtepakfjilnpodaaGreatDoorPAAT
import Derived.Test.YtepakfjilnpodaaGreatDoorPAAR
import Derived.Test.YtepakfjilnpodaaGreatDoorPAAS
namespace Go.Num
open Go.Eng Go.Shelf Go.RowKit Go.Proofs Go.Proofs.YtepakfjilnpodaaGreatDoor

set_option maxRecDepth 100000 in
set_option maxHeartbeats 8000000 in
/-- **'product'.** -/
theorem product_calls (w : World) (v : Value) (l : List Rat) (L : Nat) (h : RowC w v l) (hl : ∀ q ∈ l, RatLe q L) (hp : ∀ k, RatLe (prodL (l.take k)) L) (hk : ∀ k, Kept1 (prodL (l.take k)) = true) (hL : L ≤ 100000) (htab : Pow10 w) :
    CallsIn Fence.wide 0 Tryz.prog 68 #[v] w fun e w' => ∃ v', e = .returned v' ∧ RatAt w' v' (prodL l) ∧ Below w.heap.size w w' := by
  have HR := Hid.intro h
  have HL := Hid.intro hl
  have HP := Hid.intro hp
  have HK := Hid.intro hk
  have HTab := Hid.intro htab
  obtain ⟨o, c, rfl, h9, _⟩ := h
  obtain ⟨n, hn⟩ : ∃ n, l.length = n := ⟨_, rfl⟩
  have HN := Hid.intro hn
  rw [hn] at HR h9
  rw [hn]
  clear hl hp hk htab hn
  refine callsIn_of_wp Tryz.func68 rfl trivial ?_ rfl
  simp only [Tryz.ntmps68, List.size_toArray, List.length_cons, List.length_nil, Nat.reduceAdd, Nat.reduceSub, Array.replicate_succ, Array.replicate_zero, List.push_toArray, List.append_toArray, List.nil_append, List.cons_append]
  gi_wp2_with (gi_at_call 16; refine stop ?_)
  unfold Stop
  obtain ⟨W1, hW1⟩ : ∃ W, W = w.alloc (.cells #[.bool false, .slice none 0 0, .slice none 0 0] 27) := ⟨_, rfl⟩
  rw [← hW1]
  have HBW : Hid (Below w.heap.size w W1) := Hid.intro (by rw [hW1]; exact alloc_below _ _)
  have hA0 : ArrAt W1 w.heap.size 3 fun i => [.bool false, .slice none 0 0, .slice none 0 0].getD i (.bool false) := by
    rw [hW1]
    refine ArrAt.new _ _ _ fun i hi => ?_
    match i, hi with
    | 0, _ => rfl
    | 1, _ => rfl
    | 2, _ => rfl
  have HE : Hid (Elem W1 w.heap.size 27) := Hid.intro (by rw [hW1]; exact elem_new _ _ _)
  obtain ⟨g, hg⟩ : ∃ g, w.heap.size = g := ⟨_, rfl⟩
  have hgl : g < W1.heap.size := by rw [hW1, ← hg]; simp
  have hgw : w.heap.size ≤ g := by omega
  rw [hg] at hA0 HE
  rw [hg]
  have HA := Hid.intro hA0
  clear hg hW1 hA0
  refine (ofN_calls W1 1 (by decide) (by decide)).mono ?_
  rintro e w2 ⟨v2, rfl, hr2, hB⟩
  replace HA := Hid.intro (HA.out.below hgl hB)
  replace HE := Hid.intro (HE.out.below hB hgl)
  replace HBW := Hid.intro (HBW.out.trans (hB.mono HBW.out.size))
  replace hgl := Nat.lt_of_lt_of_le hgl hB.size
  obtain ⟨o1, k1, c1, o2, k2, c2, rfl⟩ := hr2.form
  have HR2 := Hid.intro hr2
  clear hr2 hB
  obtain ⟨g3, hg3⟩ : ∃ g3, w2.heap.size = g3 := ⟨_, rfl⟩
  have HG3 := Hid.intro hg3
  have HLT : Hid (g < g3) := Hid.intro (by omega)
  have hle3 : w.heap.size ≤ g3 := by omega
  gi_wp2
  gi_loopw [9] (fun x9 wr => ∃ i : Nat, x9 = .int .i64 (i : Int) ∧ i ≤ n ∧ Hid (BoxQ wr g3 (prodL (l.take i))) ∧ Hid (ArrAt wr g 3 fun i => [.bool false, .slice none 0 0, .slice none 0 0].getD i (.bool false)) ∧ Hid (Elem wr g 27) ∧ Hid (Below w.heap.size w wr)) (fun x _ => n - (intOf x).toNat)
  case atStart =>
    refine ⟨0, rfl, by omega, ?_, ?_, ?_, ?_⟩
    · rw [← HG3.out]; exact boxQ_new HR2.out
    · exact HA.out.alloc hgl _
    · exact HE.out.below (alloc_below _ _) hgl
    · exact HBW.out.trans ((alloc_below _ _).mono HBW.out.size)
  case round =>
    obtain ⟨i, rfl, hi, HQ, HA, HE, HB⟩ := hrel
    clear HR2 hg3 HBW
    by_cases hin : i < n
    · obtain ⟨q, hq⟩ : ∃ q, l[i]? = some q := ⟨_, List.getElem?_eq_getElem (by rw [HN.out]; exact hin)⟩
      obtain ⟨a, rfl, hal, sg, o3, k3, c3, o4, k4, c4, x0, x1, x2, hra⟩ := (HR.out.below HB.out).item hq
      have HRA := Hid.intro hra
      have HQq := Hid.intro (HL.out q (List.mem_of_getElem? hq))
      have htk : prodL (l.take (i + 1)) = prodL (l.take i) * q := by rw [List.take_add_one, hq]; exact prodL_snoc _ _
      have HTK := Hid.intro htk
      have hP1 := HP.out (i + 1)
      have hK1 := HK.out (i + 1)
      rw [htk] at hP1 hK1
      have HP1 := Hid.intro hP1
      have HK1 := Hid.intro hK1
      obtain ⟨sp, o5, k5, c5, o6, k6, c6, hA3, hr3, hE3⟩ := HQ.out
      have HR3 := Hid.intro hr3
      have y0 : wr.cell? ⟨g3, 0, none⟩ = some (.bool sp) := (hA3 0 (by omega)).1
      have y1 : wr.cell? ⟨g3, 1, none⟩ = some (.slice o5 k5 c5) := (hA3 1 (by omega)).1
      have y2 : wr.cell? ⟨g3, 2, none⟩ = some (.slice o6 k6 c6) := (hA3 2 (by omega)).1
      have hl3 : g3 < wr.heap.size := hA3.lt (by omega)
      clear hq hra htk hP1 hK1 hA3 hr3 hE3
      gi_wp2_with (gi_at_call 44; refine stop ?_)
      unfold Stop
      obtain ⟨W3, hW3⟩ : ∃ W, wr.alloc (.cells #[.bool sg, .slice o3 k3 c3, .slice o4 k4 c4] 27) = W := ⟨_, rfl⟩
      have hb3 : Below wr.heap.size wr W3 := by rw [← hW3]; exact alloc_below _ _
      rw [hW3]
      clear hW3
      refine (mulR_calls W3 _ _ _ q L (HR3.out.below hb3) (HRA.out.below hb3) (HP.out i) HQq.out (by omega) (HP1.out.mono hL) HK1.out (HTab.out.below (HB.out.trans (hb3.mono HB.out.size)))).mono ?_
      rintro e w4 ⟨v4, rfl, hr4, hB4⟩
      have HB4 := Hid.intro (hb3.trans (hB4.mono hb3.size))
      have HR4 := Hid.intro hr4
      obtain ⟨o7, k7, c7, o8, k8, c8, rfl⟩ := hr4.form
      clear hr4 hB4 hb3 HRA y0 y1 y2 x0 x1 x2
      gi_wp2_with (gi_at_call 85; refine stop ?_)
      unfold Stop
      refine (must_calls w4 _ _ HR4.out).mono ?_
      rintro e w5 ⟨v5, rfl, hr5, hB5⟩
      replace HB4 := Hid.intro (HB4.out.trans (hB5.mono HB4.out.size))
      have HR5 := Hid.intro hr5
      obtain ⟨o9, k9, c9, o10, k10, c10, rfl⟩ := hr5.form
      obtain ⟨s9, hs9⟩ : ∃ s, decide ((prodL (l.take i) * q).num < 0) = s := ⟨_, rfl⟩
      rw [hs9] at HR5
      rw [hs9]
      clear hr5 hB5 HR4 hs9
      replace HQ := Hid.intro (HQ.out.below HB4.out)
      replace HA := Hid.intro (HA.out.below (HE.out.lt) HB4.out)
      replace HE := Hid.intro (HE.out.below HB4.out HE.out.lt)
      replace HB := Hid.intro (HB.out.trans (HB4.out.mono HB.out.size))
      obtain ⟨s6, p1, n1, d1, p2, n2, d2, hA6, hr6, hE6⟩ := HQ.out
      have y0 : w5.cell? ⟨g3, 0, none⟩ = some (.bool s6) := (hA6 0 (by omega)).1
      have y1 : w5.cell? ⟨g3, 1, none⟩ = some (.slice p1 n1 d1) := (hA6 1 (by omega)).1
      have y2 : w5.cell? ⟨g3, 2, none⟩ = some (.slice p2 n2 d2) := (hA6 2 (by omega)).1
      have z0 := (hA6 0 (by omega)).2
      have z1 := (hA6 1 (by omega)).2
      have z2 := (hA6 2 (by omega)).2
      clear hA6 hr6 hE6 hl3
      gi_wp2
      refine ⟨⟨i + 1, by go_num, by omega, ?_, ?_, ?_, ?_⟩, by simp only [intOf]; omega⟩
      · rw [HTK.out]; exact HQ.out.set HR5.out
      · exact ((HA.out.other (by have := HLT.out; omega)).other (by have := HLT.out; omega)).other (by have := HLT.out; omega)
      · exact ((HE.out.setCell _ _).setCell _ _).setCell _ _
      · exact ((HB.out.setCell hle3 _).setCell hle3 _).setCell hle3 _
    · have hin2 : i = n := by omega
      have HE2 : Hid (prodL (l.take i) = prodL l) := Hid.intro (by rw [hin2, ← HN.out, List.take_length])
      obtain ⟨sp, o5, k5, c5, o6, k6, c6, hA3, hr3, hE3⟩ := HQ.out
      have HR3 := Hid.intro hr3
      have y0 : wr.cell? ⟨g3, 0, none⟩ = some (.bool sp) := (hA3 0 (by omega)).1
      have y1 : wr.cell? ⟨g3, 1, none⟩ = some (.slice o5 k5 c5) := (hA3 1 (by omega)).1
      have y2 : wr.cell? ⟨g3, 2, none⟩ = some (.slice o6 k6 c6) := (hA3 2 (by omega)).1
      have z0 : wr.cell? ⟨g, 0, none⟩ = some (.bool false) := (HA.out 0 (by omega)).1
      have z1 : wr.cell? ⟨g, 1, none⟩ = some (.slice none 0 0) := (HA.out 1 (by omega)).1
      have z2 : wr.cell? ⟨g, 2, none⟩ = some (.slice none 0 0) := (HA.out 2 (by omega)).1
      have f0 := (HA.out 0 (by omega)).2
      have f1 := (HA.out 1 (by omega)).2
      have f2 := (HA.out 2 (by omega)).2
      clear hA3 hr3 hE3
      gi_wp2
      refine ret_rat3 rfl rfl g rfl z0 z1 z2 ?_
      refine ⟨_, rfl, ?_, ((HB.out.setCell hgw _).setCell hgw _).setCell hgw _⟩
      rw [HE2.out] at HR3
      exact ((HR3.out.setElem HE.out (by decide)).setElem (HE.out.setCell _ _) (by decide)).setElem ((HE.out.setCell _ _).setCell _ _) (by decide)

set_option maxRecDepth 100000 in
set_option maxHeartbeats 8000000 in
/-- **'sum'.** -/
theorem sum_calls (w : World) (v : Value) (l : List Rat) (L : Nat) (h : RowC w v l) (hl : ∀ q ∈ l, RatLe q L) (hp : ∀ k, RatLe (sumL (l.take k)) L) (hk : ∀ k, Kept1 (sumL (l.take k)) = true) (hL : L ≤ 100000) (htab : Pow10 w) :
    CallsIn Fence.wide 0 Tryz.prog 65 #[v] w fun e w' => ∃ v', e = .returned v' ∧ RatAt w' v' (sumL l) ∧ Below w.heap.size w w' := by
  have HR := Hid.intro h
  have HL := Hid.intro hl
  have HP := Hid.intro hp
  have HK := Hid.intro hk
  have HTab := Hid.intro htab
  obtain ⟨o, c, rfl, h9, _⟩ := h
  obtain ⟨n, hn⟩ : ∃ n, l.length = n := ⟨_, rfl⟩
  have HN := Hid.intro hn
  rw [hn] at HR h9
  rw [hn]
  clear hl hp hk htab hn
  refine callsIn_of_wp Tryz.func65 rfl trivial ?_ rfl
  simp only [Tryz.ntmps65, List.size_toArray, List.length_cons, List.length_nil, Nat.reduceAdd, Nat.reduceSub, Array.replicate_succ, Array.replicate_zero, List.push_toArray, List.append_toArray, List.nil_append, List.cons_append]
  obtain ⟨W1, hW1⟩ : ∃ W, W = w.alloc (.cells #[.bool false, .slice none 0 0, .slice none 0 0] 27) := ⟨_, rfl⟩
  have HBW : Hid (Below w.heap.size w W1) := Hid.intro (by rw [hW1]; exact alloc_below _ _)
  have hA0 : ArrAt W1 w.heap.size 3 fun i => [.bool false, .slice none 0 0, .slice none 0 0].getD i (.bool false) := by
    rw [hW1]
    refine ArrAt.new _ _ _ fun i hi => ?_
    match i, hi with
    | 0, _ => rfl
    | 1, _ => rfl
    | 2, _ => rfl
  have HE : Hid (Elem W1 w.heap.size 27) := Hid.intro (by rw [hW1]; exact elem_new _ _ _)
  have hsz1 : W1.heap.size = w.heap.size + 1 := by rw [hW1]; simp
  have HW1 := Hid.intro hW1
  clear hW1
  obtain ⟨g, hg⟩ : ∃ g, w.heap.size = g := ⟨_, rfl⟩
  have hgl : g < W1.heap.size := by omega
  have hgw : w.heap.size ≤ g := by omega
  have HG := Hid.intro hg
  rw [hg] at hA0 HE
  have HA := Hid.intro hA0
  have hz := ratAt_zero W1
  have HR2 := Hid.intro hz
  clear hA0 hz
  have HG3 : Hid (W1.heap.size = g + 1) := Hid.intro (by omega)
  have HLT : Hid (g < g + 1) := Hid.intro (by omega)
  have hle3 : w.heap.size ≤ g + 1 := by omega
  clear hsz1
  gi_wp2
  gi_loopw [8] (fun x8 wr => ∃ i : Nat, x8 = .int .i64 (i : Int) ∧ i ≤ n ∧ Hid (BoxQ wr (g + 1) (sumL (l.take i))) ∧ Hid (ArrAt wr g 3 fun i => [.bool false, .slice none 0 0, .slice none 0 0].getD i (.bool false)) ∧ Hid (Elem wr g 27) ∧ Hid (Below w.heap.size w wr)) (fun x _ => n - (intOf x).toNat)
  case atStart =>
    rw [← HW1.out]
    refine ⟨0, rfl, by omega, ?_, ?_, ?_, ?_⟩
    · rw [← HG3.out]; exact boxQ_new HR2.out
    · exact HA.out.alloc hgl _
    · exact HE.out.below (alloc_below _ _) hgl
    · exact HBW.out.trans ((alloc_below _ _).mono HBW.out.size)
  case round =>
    obtain ⟨i, rfl, hi, HQ, HA, HE, HB⟩ := hrel
    clear HR2 HBW
    by_cases hin : i < n
    · obtain ⟨q, hq⟩ : ∃ q, l[i]? = some q := ⟨_, List.getElem?_eq_getElem (by rw [HN.out]; exact hin)⟩
      obtain ⟨a, rfl, hal, sg, o3, k3, c3, o4, k4, c4, x0, x1, x2, hra⟩ := (HR.out.below HB.out).item hq
      have HRA := Hid.intro hra
      have HQq := Hid.intro (HL.out q (List.mem_of_getElem? hq))
      have htk : sumL (l.take (i + 1)) = sumL (l.take i) + q := by rw [List.take_add_one, hq]; exact sumL_snoc _ _
      have HTK := Hid.intro htk
      have hP1 := HP.out (i + 1)
      have hK1 := HK.out (i + 1)
      rw [htk] at hP1 hK1
      have HP1 := Hid.intro hP1
      have HK1 := Hid.intro hK1
      obtain ⟨sp, o5, k5, c5, o6, k6, c6, hA3, hr3, hE3⟩ := HQ.out
      have HR3 := Hid.intro hr3
      have y0 : wr.cell? ⟨g + 1, 0, none⟩ = some (.bool sp) := (hA3 0 (by omega)).1
      have y1 : wr.cell? ⟨g + 1, 1, none⟩ = some (.slice o5 k5 c5) := (hA3 1 (by omega)).1
      have y2 : wr.cell? ⟨g + 1, 2, none⟩ = some (.slice o6 k6 c6) := (hA3 2 (by omega)).1
      have hl3 : g + 1 < wr.heap.size := hA3.lt (by omega)
      clear hq hra htk hP1 hK1 hA3 hr3 hE3
      gi_wp2_with (gi_at_call 17; refine stop ?_)
      unfold Stop
      obtain ⟨W3, hW3⟩ : ∃ W, wr.alloc (.cells #[.bool sg, .slice o3 k3 c3, .slice o4 k4 c4] 27) = W := ⟨_, rfl⟩
      have hb3 : Below wr.heap.size wr W3 := by rw [← hW3]; exact alloc_below _ _
      rw [hW3]
      clear hW3
      refine (addR_calls W3 _ _ _ q L (HR3.out.below hb3) (HRA.out.below hb3) (HP.out i) HQq.out (by omega) (HP1.out.mono hL) HK1.out (HTab.out.below (HB.out.trans (hb3.mono HB.out.size)))).mono ?_
      rintro e w4 ⟨v4, rfl, hr4, hB4⟩
      have HB4 := Hid.intro (hb3.trans (hB4.mono hb3.size))
      have HR4 := Hid.intro hr4
      obtain ⟨o7, k7, c7, o8, k8, c8, rfl⟩ := hr4.form
      clear hr4 hB4 hb3 HRA y0 y1 y2 x0 x1 x2
      gi_wp2_with (gi_at_call 85; refine stop ?_)
      unfold Stop
      refine (must_calls w4 _ _ HR4.out).mono ?_
      rintro e w5 ⟨v5, rfl, hr5, hB5⟩
      replace HB4 := Hid.intro (HB4.out.trans (hB5.mono HB4.out.size))
      have HR5 := Hid.intro hr5
      obtain ⟨o9, k9, c9, o10, k10, c10, rfl⟩ := hr5.form
      obtain ⟨s9, hs9⟩ : ∃ s, decide ((sumL (l.take i) + q).num < 0) = s := ⟨_, rfl⟩
      rw [hs9] at HR5
      rw [hs9]
      clear hr5 hB5 HR4 hs9
      replace HQ := Hid.intro (HQ.out.below HB4.out)
      replace HA := Hid.intro (HA.out.below (HE.out.lt) HB4.out)
      replace HE := Hid.intro (HE.out.below HB4.out HE.out.lt)
      replace HB := Hid.intro (HB.out.trans (HB4.out.mono HB.out.size))
      obtain ⟨s6, p1, n1, d1, p2, n2, d2, hA6, hr6, hE6⟩ := HQ.out
      have y0 : w5.cell? ⟨g + 1, 0, none⟩ = some (.bool s6) := (hA6 0 (by omega)).1
      have y1 : w5.cell? ⟨g + 1, 1, none⟩ = some (.slice p1 n1 d1) := (hA6 1 (by omega)).1
      have y2 : w5.cell? ⟨g + 1, 2, none⟩ = some (.slice p2 n2 d2) := (hA6 2 (by omega)).1
      have z0 := (hA6 0 (by omega)).2
      have z1 := (hA6 1 (by omega)).2
      have z2 := (hA6 2 (by omega)).2
      clear hA6 hr6 hE6 hl3
      gi_wp2
      refine ⟨⟨i + 1, by go_num, by omega, ?_, ?_, ?_, ?_⟩, by simp only [intOf]; omega⟩
      · rw [HTK.out]; exact HQ.out.set HR5.out
      · exact ((HA.out.other (by have := HLT.out; omega)).other (by have := HLT.out; omega)).other (by have := HLT.out; omega)
      · exact ((HE.out.setCell _ _).setCell _ _).setCell _ _
      · exact ((HB.out.setCell hle3 _).setCell hle3 _).setCell hle3 _
    · have hin2 : i = n := by omega
      have HE2 : Hid (sumL (l.take i) = sumL l) := Hid.intro (by rw [hin2, ← HN.out, List.take_length])
      obtain ⟨sp, o5, k5, c5, o6, k6, c6, hA3, hr3, hE3⟩ := HQ.out
      have HR3 := Hid.intro hr3
      have y0 : wr.cell? ⟨g + 1, 0, none⟩ = some (.bool sp) := (hA3 0 (by omega)).1
      have y1 : wr.cell? ⟨g + 1, 1, none⟩ = some (.slice o5 k5 c5) := (hA3 1 (by omega)).1
      have y2 : wr.cell? ⟨g + 1, 2, none⟩ = some (.slice o6 k6 c6) := (hA3 2 (by omega)).1
      have z0 : wr.cell? ⟨g, 0, none⟩ = some (.bool false) := (HA.out 0 (by omega)).1
      have z1 : wr.cell? ⟨g, 1, none⟩ = some (.slice none 0 0) := (HA.out 1 (by omega)).1
      have z2 : wr.cell? ⟨g, 2, none⟩ = some (.slice none 0 0) := (HA.out 2 (by omega)).1
      have f0 := (HA.out 0 (by omega)).2
      have f1 := (HA.out 1 (by omega)).2
      have f2 := (HA.out 2 (by omega)).2
      clear hA3 hr3 hE3
      gi_wp2
      refine ret_rat3 rfl rfl g rfl z0 z1 z2 ?_
      refine ⟨_, rfl, ?_, ((HB.out.setCell hgw _).setCell hgw _).setCell hgw _⟩
      rw [HE2.out] at HR3
      exact ((HR3.out.setElem HE.out (by decide)).setElem (HE.out.setCell _ _) (by decide)).setElem ((HE.out.setCell _ _).setCell _ _) (by decide)
end Go.Num
namespace Go.Num

/-- A sum of the first. -/
def sumQ (f : Nat → Rat) : Nat → Rat
  | 0 => 0
  | n + 1 => sumQ f n + f n
theorem sumQ_congr {f g : Nat → Rat} : ∀ {n : Nat}, (∀ i, i < n → f i = g i) → sumQ f n = sumQ g n
  | 0, _ => rfl
  | n + 1, h => by show sumQ f n + f n = sumQ g n + g n; rw [sumQ_congr fun i hi => h i (by omega), h n (by omega)]
theorem sumQ_add (f g : Nat → Rat) : ∀ n, sumQ (fun i => f i + g i) n = sumQ f n + sumQ g n
  | 0 => by simp only [sumQ]; grind
  | n + 1 => by show sumQ (fun i => f i + g i) n + (f n + g n) = (sumQ f n + f n) + (sumQ g n + g n); rw [sumQ_add f g n]; grind
theorem sumQ_zero : ∀ n, sumQ (fun _ => 0) n = 0
  | 0 => rfl
  | n + 1 => by show sumQ (fun _ => 0) n + 0 = 0; rw [sumQ_zero n]; grind
theorem sumQ_mul (c : Rat) (f : Nat → Rat) : ∀ n, sumQ (fun i => c * f i) n = c * sumQ f n
  | 0 => by simp only [sumQ]; grind
  | n + 1 => by show sumQ (fun i => c * f i) n + c * f n = c * (sumQ f n + f n); rw [sumQ_mul c f n]; grind
theorem sumQ_neg (f : Nat → Rat) (n : Nat) : sumQ (fun i => - f i) n = - sumQ f n := by
  have := sumQ_mul (-1) f n
  rw [sumQ_congr (g := fun i => -1 * f i) fun i _ => by grind, this]
  grind
theorem sumQ_swap (f : Nat → Nat → Rat) (m : Nat) : ∀ n, sumQ (fun i => sumQ (fun j => f i j) m) n = sumQ (fun j => sumQ (fun i => f i j) n) m
  | 0 => by show 0 = sumQ (fun _ => 0) m; rw [sumQ_zero]
  | n + 1 => by
    show sumQ (fun i => sumQ (fun j => f i j) m) n + sumQ (fun j => f n j) m = sumQ (fun j => sumQ (fun i => f i j) n + f n j) m
    rw [sumQ_swap f m n, sumQ_add]
theorem sumQ_one {f : Nat → Rat} {a : Nat} : ∀ {n : Nat}, a < n → (∀ i, i < n → i ≠ a → f i = 0) → sumQ f n = f a
  | n + 1, h, h0 => by
    show sumQ f n + f n = f a
    by_cases e : a = n
    · subst e
      rw [sumQ_congr (g := fun _ => 0) fun i hi => h0 i (by omega) (by omega), sumQ_zero]
      grind
    · rw [sumQ_one (n := n) (by omega) fun i hi hn => h0 i (by omega) hn, h0 n (by omega) (Ne.symm e)]
      grind

/-- How many of a set lie below. -/
def lieB (S : Nat → Bool) : Nat → Nat
  | 0 => 0
  | n + 1 => lieB S n + (if S n = true then 1 else 0)
def wo (S : Nat → Bool) (j : Nat) : Nat → Bool := fun i => S i && decide (i ≠ j)
theorem lieB_ge {S : Nat → Bool} {j : Nat} : ∀ {n : Nat}, n ≤ j → lieB (wo S j) n = lieB S n
  | 0, _ => rfl
  | n + 1, h => by
    have hw : wo S j n = S n := by
      have : n ≠ j := by omega
      simp [wo, this]
    unfold lieB
    rw [hw, lieB_ge (n := n) (by omega)]
theorem lieB_lt {S : Nat → Bool} {j : Nat} (hj : S j = true) : ∀ {n : Nat}, j < n → lieB S n = lieB (wo S j) n + 1
  | n + 1, h => by
    unfold lieB
    by_cases e : n = j
    · subst e
      have hw : wo S n n = false := by simp [wo]
      rw [hw, hj, lieB_ge (Nat.le_refl n)]
      simp
    · have hw : wo S j n = S n := by simp [wo, e]
      rw [hw, lieB_lt hj (n := n) (by omega)]
      omega
def pm (k : Nat) : Rat := if k % 2 = 0 then 1 else -1
theorem pm_succ (k : Nat) : pm (k + 1) = - pm k := by
  unfold pm
  rcases Nat.mod_two_eq_zero_or_one k with h | h
  · rw [if_neg (by omega), if_pos h]
  · rw [if_pos (by omega), if_neg (by omega)]; grind
theorem pm_cases (k : Nat) : pm k = 1 ∨ pm k = -1 := by
  unfold pm
  split
  · exact .inl rfl
  · exact .inr rfl
abbrev Fam := (Nat → Bool) → Rat
/-- A row ahead of rows: by sets of columns. -/
def wedge (N : Nat) (v : Nat → Rat) (w : Fam) : Fam := fun S => sumQ (fun j => if S j = true then pm (lieB S j) * v j * w (wo S j) else 0) N
theorem wo_comm (S : Nat → Bool) (j k : Nat) : wo (wo S j) k = wo (wo S k) j := by
  funext i
  unfold wo
  cases S i <;> simp [Bool.and_comm]
/-- Two rows exchanged turn the sign. -/
theorem wedge_swap (N : Nat) (u v : Nat → Rat) (w : Fam) (S : Nat → Bool) : wedge N u (wedge N v w) S = - wedge N v (wedge N u w) S := by
  have ex : ∀ (u v : Nat → Rat), wedge N u (wedge N v w) S = sumQ (fun j => sumQ (fun k => if S j = true ∧ S k = true ∧ k ≠ j then pm (lieB S j) * pm (lieB (wo S j) k) * (u j * v k * w (wo (wo S j) k)) else 0) N) N := fun u v => by
    unfold wedge
    refine sumQ_congr fun j _ => ?_
    by_cases hj : S j = true
    · rw [if_pos hj, ← sumQ_mul]
      refine sumQ_congr fun k _ => ?_
      by_cases hk : S k = true ∧ k ≠ j
      · have : wo S j k = true := by simp [wo, hk.1, hk.2]
        rw [if_pos this, if_pos ⟨hj, hk⟩]
        grind
      · have : ¬ wo S j k = true := by
          intro h
          simp [wo] at h
          exact hk h
        rw [if_neg this, if_neg (fun h => hk h.2)]
        grind
    · rw [if_neg hj]
      exact (sumQ_zero N).symm.trans (sumQ_congr fun k _ => (if_neg (fun h => hj h.1)).symm)
  rw [ex u v, ex v u, sumQ_swap, ← sumQ_neg]
  refine sumQ_congr fun k _ => ?_
  rw [← sumQ_neg]
  refine sumQ_congr fun j _ => ?_
  by_cases h : S j = true ∧ S k = true ∧ k ≠ j
  · obtain ⟨hj, hk, hne⟩ := h
    rw [if_pos ⟨hj, hk, hne⟩, if_pos ⟨hk, hj, Ne.symm hne⟩, wo_comm S j k]
    have key : pm (lieB S j) * pm (lieB (wo S j) k) = - (pm (lieB S k) * pm (lieB (wo S k) j)) := by
      rcases Nat.lt_or_gt_of_ne hne with hlt | hlt
      · rw [lieB_ge (S := S) (j := j) (n := k) (by omega), lieB_lt hk hlt, pm_succ]; grind
      · rw [lieB_ge (S := S) (j := k) (n := j) (by omega), lieB_lt hj hlt, pm_succ]; grind
    rw [key]
    grind
  · rw [if_neg h, if_neg (fun q => h ⟨q.2.1, q.1, Ne.symm q.2.2⟩)]
    grind
theorem wedge_swap' (N : Nat) (u v : Nat → Rat) (w : Fam) : wedge N u (wedge N v w) = fun S => - wedge N v (wedge N u w) S := funext (wedge_swap N u v w)
theorem wedge_twice (N : Nat) (v : Nat → Rat) (w : Fam) (S : Nat → Bool) : wedge N v (wedge N v w) S = 0 := by
  have := wedge_swap N v v w S
  grind
theorem wedge_add (N : Nat) (u v : Nat → Rat) (c : Rat) (w : Fam) (S : Nat → Bool) : wedge N (fun j => u j + c * v j) w S = wedge N u w S + c * wedge N v w S := by
  unfold wedge
  rw [← sumQ_mul, ← sumQ_add]
  refine sumQ_congr fun j _ => ?_
  by_cases hj : S j = true
  · rw [if_pos hj, if_pos hj, if_pos hj]; grind
  · rw [if_neg hj, if_neg hj, if_neg hj]; grind
theorem wedge_scale (N : Nat) (u : Nat → Rat) (c : Rat) (w : Fam) (S : Nat → Bool) : wedge N (fun j => c * u j) w S = c * wedge N u w S := by
  unfold wedge
  rw [← sumQ_mul]
  refine sumQ_congr fun j _ => ?_
  by_cases hj : S j = true
  · rw [if_pos hj, if_pos hj]; grind
  · rw [if_neg hj, if_neg hj]; grind
theorem wedge_out (N : Nat) (u : Nat → Rat) (c : Rat) (w : Fam) : wedge N u (fun S => c * w S) = fun S => c * wedge N u w S := by
  funext S
  unfold wedge
  rw [← sumQ_mul]
  refine sumQ_congr fun j _ => ?_
  by_cases hj : S j = true
  · rw [if_pos hj, if_pos hj]; grind
  · rw [if_neg hj, if_neg hj]; grind

/-- Rows multiplied outwards. -/
def oneF (N : Nat) : Fam := fun S => if lieB S N = 0 then 1 else 0
def wedges (N : Nat) : List (Nat → Rat) → Fam
  | [] => oneF N
  | u :: r => wedge N u (wedges N r)
/-- A row brought to the front. -/
theorem wedges_front (N : Nat) (u : Nat → Rat) (B : List (Nat → Rat)) : ∀ A, wedges N (A ++ u :: B) = fun S => pm A.length * wedges N (u :: (A ++ B)) S
  | [] => by
    funext S
    show wedges N (u :: B) S = pm 0 * wedges N (u :: B) S
    rw [show pm 0 = 1 from rfl]
    grind
  | a :: A => by
    funext S
    show wedge N a (wedges N (A ++ u :: B)) S = pm (A.length + 1) * wedge N u (wedge N a (wedges N (A ++ B))) S
    rw [wedges_front N u B A, wedge_out, pm_succ, wedge_swap N u a]
    show pm A.length * wedge N a (wedge N u (wedges N (A ++ B))) S = _
    grind
/-- Rows that differ by multiples of a row. -/
inductive Differ (u : Nat → Rat) : List (Nat → Rat) → List (Nat → Rat) → Prop
  | nil : Differ u [] []
  | cons {x y : Nat → Rat} {A B : List (Nat → Rat)} (t : Rat) (h : ∀ j, y j = x j + t * u j) (r : Differ u A B) : Differ u (x :: A) (y :: B)
theorem Differ.len {u : Nat → Rat} {A B : List (Nat → Rat)} (h : Differ u A B) : A.length = B.length := by
  induction h with
  | nil => rfl
  | cons t h r ih => simp [ih]
theorem Differ.append {u : Nat → Rat} {A B C D : List (Nat → Rat)} (h : Differ u A B) (k : Differ u C D) : Differ u (A ++ C) (B ++ D) := by
  induction h with
  | nil => exact k
  | cons t h r ih => exact .cons t h ih
theorem wedges_differ (N : Nat) {u : Nat → Rat} {A B : List (Nat → Rat)} (h : Differ u A B) : wedges N (u :: B) = wedges N (u :: A) := by
  induction h with
  | nil => rfl
  | @cons x y A B t h r ih =>
    funext S
    have hy : y = fun j => x j + t * u j := funext h
    show wedge N u (wedge N y (wedges N B)) S = wedge N u (wedge N x (wedges N A)) S
    rw [wedge_swap N u y, wedge_swap N u x]
    show - wedge N y (wedges N (u :: B)) S = - wedge N x (wedges N (u :: A)) S
    rw [ih, hy, wedge_add]
    have : wedge N u (wedges N (u :: A)) S = 0 := wedge_twice N u _ S
    rw [this]
    grind
theorem wedges_mid (N : Nat) {u : Nat → Rat} {A A' B B' : List (Nat → Rat)} (hA : Differ u A A') (hB : Differ u B B') : wedges N (A' ++ u :: B') = wedges N (A ++ u :: B) := by
  rw [wedges_front, wedges_front, hA.len, wedges_differ N (hA.append hB)]

/-- A set of columns. -/
def setL (l : List Nat) : Nat → Bool := fun j => l.contains j
theorem wo_setL {c : Nat} {l : List Nat} (h : c ∉ l) : wo (setL (c :: l)) c = setL l := by
  funext j
  show ((c :: l).contains j && decide (j ≠ c)) = l.contains j
  rw [List.contains_cons]
  by_cases e : j = c
  · subst e
    have : l.contains j = false := by
      cases hc : l.contains j with
      | false => rfl
      | true => exact absurd (List.contains_iff_mem.1 hc) h
    rw [this]
    simp
  · have : (j == c) = false := by simp [e]
    rw [this]
    simp [e]
theorem lieB_nil : ∀ n, lieB (setL []) n = 0
  | 0 => rfl
  | n + 1 => by
    unfold lieB
    rw [lieB_nil n]
    rfl
/-- Rows in a triangle. -/
inductive Tri (N : Nat) : List (Nat → Rat) → List Nat → Rat → Prop
  | nil : Tri N [] [] 1
  | cons {u : Nat → Rat} {c : Nat} {A : List (Nat → Rat)} {l : List Nat} {p : Rat} (hc : c < N) (hn : c ∉ l) (h0 : ∀ k ∈ l, u k = 0) (r : Tri N A l p) : Tri N (u :: A) (c :: l) (u c * p)
theorem Tri.wedges {N : Nat} {A : List (Nat → Rat)} {l : List Nat} {p : Rat} (h : Tri N A l p) : Go.Num.wedges N A (setL l) = p ∨ Go.Num.wedges N A (setL l) = -p := by
  induction h with
  | nil =>
    left
    show (if lieB (setL []) N = 0 then (1 : Rat) else 0) = 1
    rw [lieB_nil, if_pos rfl]
  | @cons u c A l p hc hn h0 r ih =>
    have e : Go.Num.wedges N (u :: A) (setL (c :: l)) = pm (lieB (setL (c :: l)) c) * u c * Go.Num.wedges N A (setL l) := by
      show sumQ (fun j => if setL (c :: l) j = true then pm (lieB (setL (c :: l)) j) * u j * Go.Num.wedges N A (wo (setL (c :: l)) j) else 0) N = _
      rw [sumQ_one hc]
      · rw [if_pos (show setL (c :: l) c = true by simp [setL]), wo_setL hn]
      · intro i _ hi
        by_cases hm : setL (c :: l) i = true
        · have : i ∈ l := by
            have : i ∈ c :: l := List.contains_iff_mem.1 hm
            simpa [hi] using this
          rw [if_pos hm, h0 i this]
          grind
        · rw [if_neg hm]
    rw [e]
    rcases pm_cases (lieB (setL (c :: l)) c) with hp | hp <;> rcases ih with hi | hi <;> rw [hp, hi]
    · left; grind
    · right; grind
    · right; grind
    · left; grind

/-- A power. -/
def pw (r : Rat) : Nat → Rat
  | 0 => 1
  | n + 1 => pw r n * r
theorem pw_pos {r : Rat} (h : 0 < r) : ∀ n, 0 < pw r n
  | 0 => by show (0 : Rat) < 1; decide
  | n + 1 => Rat.mul_pos (pw_pos h n) h
theorem pw_gt {r : Rat} (h : 1 < r) : ∀ n, 1 < pw r (n + 1)
  | 0 => by show 1 < 1 * r; grind
  | n + 1 => by
    have ih := pw_gt h n
    show 1 < pw r (n + 1) * r
    have h1 : 0 < pw r (n + 1) * (r - 1) := Rat.mul_pos (by grind) (by grind)
    grind
theorem pw_lt {r : Rat} (h0 : 0 < r) (h : r < 1) : ∀ n, pw r (n + 1) < 1
  | 0 => by show 1 * r < 1; grind
  | n + 1 => by
    have ih := pw_lt h0 h n
    show pw r (n + 1) * r < 1
    have h1 : 0 < pw r (n + 1) * (1 - r) := Rat.mul_pos (pw_pos h0 _) (by grind)
    grind
theorem pw_ne {r : Rat} (h0 : 0 < r) (h : r ≠ 1) {n : Nat} (hn : 0 < n) : pw r n ≠ 1 := by
  obtain ⟨k, rfl⟩ : ∃ k, n = k + 1 := ⟨n - 1, by omega⟩
  rcases Classical.em (1 < r) with h1 | h1
  · have := pw_gt h1 k; grind
  · have := pw_lt h0 (by grind) k; grind
theorem pw_add (r : Rat) (a : Nat) : ∀ b, pw r (a + b) = pw r a * pw r b
  | 0 => by show pw r a = pw r a * 1; grind
  | b + 1 => by
    show pw r (a + b) * r = pw r a * (pw r b * r)
    rw [pw_add r a b]; grind
theorem pw_inv {r : Rat} (h : r ≠ 0) : ∀ n, pw (1 / r) n * pw r n = 1
  | 0 => by show (1 : Rat) * 1 = 1; grind
  | n + 1 => by
    have ih := pw_inv h n
    show pw (1 / r) n * (1 / r) * (pw r n * r) = 1
    grind
/-- The chance to end with all, and the games: as the program counts them. -/
def ruinC (p : Rat) (a n : Nat) : Rat := if (1 - p) / p = 1 then (a : Rat) / (n : Rat) else (pw ((1 - p) / p) a - 1) / (pw ((1 - p) / p) n - 1)
def ruinG (p : Rat) (a n : Nat) : Rat := if (1 - p) / p = 1 then (a : Rat) * ((n : Rat) - (a : Rat)) else ((n : Rat) * ruinC p a n - (a : Rat)) / (p - (1 - p))
/-- With 1/2. -/
theorem ruin_half (a n : Nat) : ruinC (1 / 2) a n = (a : Rat) / (n : Rat) ∧ ruinG (1 / 2) a n = (a : Rat) * ((n : Rat) - (a : Rat)) := by
  have h : (1 - (1 / 2 : Rat)) / (1 / 2) = 1 := by grind
  unfold ruinG ruinC
  rw [if_pos h, if_pos h]
  exact ⟨rfl, rfl⟩
theorem ruin_den (p : Rat) : 1 - p - (1 - (1 - p)) = -(p - (1 - p)) := by grind
theorem ruin_num (n c a : Rat) : -(n * c - a) = n * (1 - c) - (n - a) := by grind
/-- Turned round. -/
theorem ruin_turn {p : Rat} (h0 : 0 < p) (h1 : p < 1) {a n : Nat} (ha : a ≤ n) (hn : 0 < n) : ruinC p a n + ruinC (1 - p) (n - a) n = 1 ∧ ruinG p a n = ruinG (1 - p) (n - a) n := by
  have hp : p ≠ 0 := by grind
  have hq : 1 - p ≠ 0 := by grind
  have hnn : (n : Rat) ≠ 0 := by
    intro e
    have : (n : Rat) = ((0 : Nat) : Rat) := e
    have := Rat.natCast_inj.1 this
    omega
  have hsub : ((n - a : Nat) : Rat) = (n : Rat) - (a : Rat) := by
    have : n = n - a + a := by omega
    have h2 : (n : Rat) = ((n - a + a : Nat) : Rat) := by rw [← this]
    rw [Rat.natCast_add] at h2
    grind
  generalize hr : (1 - p) / p = r
  have hrp : 0 < r := by rw [← hr]; rw [Rat.div_def]; exact Rat.mul_pos (by grind) (Rat.inv_pos.2 h0)
  have hrq : (1 - (1 - p)) / (1 - p) = 1 / r := by rw [← hr]; grind
  have hr0 : r ≠ 0 := by grind
  by_cases e : r = 1
  · have e2 : (1 : Rat) / r = 1 := by rw [e]; grind
    have k1 : ruinC p a n = (a : Rat) / (n : Rat) := by unfold ruinC; rw [hr, if_pos e]
    have k2 : ruinC (1 - p) (n - a) n = ((n - a : Nat) : Rat) / (n : Rat) := by unfold ruinC; rw [hrq, if_pos e2]
    have k3 : ruinG p a n = (a : Rat) * ((n : Rat) - (a : Rat)) := by unfold ruinG; rw [hr, if_pos e]
    have k4 : ruinG (1 - p) (n - a) n = ((n - a : Nat) : Rat) * ((n : Rat) - ((n - a : Nat) : Rat)) := by unfold ruinG; rw [hrq, if_pos e2]
    rw [k1, k2, k3, k4, hsub]
    constructor <;> grind
  · have e2 : (1 : Rat) / r ≠ 1 := fun q => e (by grind)
    have k1 : ruinC p a n = (pw r a - 1) / (pw r n - 1) := by unfold ruinC; rw [hr, if_neg e]
    have k2 : ruinC (1 - p) (n - a) n = (pw (1 / r) (n - a) - 1) / (pw (1 / r) n - 1) := by unfold ruinC; rw [hrq, if_neg e2]
    have k3 : ruinG p a n = ((n : Rat) * ruinC p a n - (a : Rat)) / (p - (1 - p)) := by unfold ruinG; rw [hr, if_neg e]
    have k4 : ruinG (1 - p) (n - a) n = ((n : Rat) * ruinC (1 - p) (n - a) n - ((n - a : Nat) : Rat)) / (1 - p - (1 - (1 - p))) := by unfold ruinG; rw [hrq, if_neg e2]
    have g1 := pw_ne hrp e hn
    have g2 := pw_inv hr0 n
    have g3 := pw_inv hr0 (n - a)
    have g4 : pw r n = pw r (n - a) * pw r a := by rw [← pw_add, show n - a + a = n by omega]
    have hpq : p - (1 - p) ≠ 0 := fun q => e (by rw [← hr]; grind)
    have s1 : ruinC p a n + ruinC (1 - p) (n - a) n = 1 := by
      rw [k1, k2]
      have j1 : pw r n ≠ 0 := by have := pw_pos hrp n; grind
      have j2 : pw r (n - a) ≠ 0 := by have := pw_pos hrp (n - a); grind
      have j3 : pw (1 / r) n = 1 / pw r n := by grind
      have j4 : pw (1 / r) (n - a) = 1 / pw r (n - a) := by grind
      rw [j3, j4, g4]
      rw [g4] at g1 j1
      generalize pw r (n - a) = x at *
      generalize pw r a = y at *
      have j5 : x * y - 1 ≠ 0 := by grind
      have j6 : 1 / (x * y) - 1 ≠ 0 := by grind
      have j7 : x ≠ 0 := j2
      obtain ⟨A, hA⟩ : ∃ A, (y - 1) / (x * y - 1) = A := ⟨_, rfl⟩
      obtain ⟨C, hC⟩ : ∃ C, (1 / x - 1) / (1 / (x * y) - 1) = C := ⟨_, rfl⟩
      rw [hA, hC]
      have q1 : A * (x * y - 1) = y - 1 := by rw [← hA]; grind
      have q2 : C * (1 / (x * y) - 1) = 1 / x - 1 := by rw [← hC]; grind
      have q3 : C * (1 - x * y) = y - x * y := by
        have h5 : (1 / (x * y)) * (x * y) = 1 := by grind
        have h6 : (1 / x) * (x * y) = y := by grind
        have h7 : C * (1 / (x * y) - 1) * (x * y) = (1 / x - 1) * (x * y) := by rw [q2]
        grind
      have q4 : (A + C - 1) * (x * y - 1) = 0 := by grind
      rcases Rat.mul_eq_zero.1 q4 with h | h
      · grind
      · exact absurd h j5
    refine ⟨s1, ?_⟩
    rw [k3, k4, hsub]
    have : ruinC (1 - p) (n - a) n = 1 - ruinC p a n := by grind
    rw [this]
    have neg : ∀ x d : Rat, d ≠ 0 → x / d = (-x) / (-d) := fun x d hd => by
      have : -d ≠ 0 := fun q => hd (by grind)
      grind
    rw [neg _ _ hpq, ruin_den p, ruin_num]
end Go.Num
namespace Go.Eng
open Go.RowKit

def runTail (P : Program) (cls : Tg → Sh) (T : TTab) (res : List TypeId) (D : List FuncId) (n : Nat) (fn : FuncId) (cd : Code) (nt : Nat) (slots : List Tmp) (ts : AT) (t : Tmp) : Bool :=
  match (layAT cls ts (bare res) fun args H => setAll nt .nil slots args fun Tr =>
    match (cb P [] (oracle cls T) D n).code none fn cd { T := Tr, nt := nt, ds := [] } H with
    | some (.ret, a', H') => (match a'.ds with
      | [] => (match a'.T.get t with
        | some (.sc (.bool true)) => some (AV.nil, H')
        | _ => none)
      | _ => none)
    | _ => none : Option (AV × AH)) with
  | some _ => true
  | none => false

theorem fold_self (A : Array Value) : ∀ (slots : List Tmp), ((slots.zip (slots.map fun j => A.getD j undef)).foldl (fun tmps (q : Tmp × Value) => tmps.setIfInBounds q.1 q.2) A) = A
  | [] => rfl
  | j :: r => by
    have e : A.setIfInBounds j (A.getD j undef) = A := by
      apply Array.ext
      · simp
      · intro i h1 h2
        by_cases hij : j = i
        · subst hij
          rw [Array.getElem_setIfInBounds_self]
          rw [Array.getD_eq_getD_getElem?, Array.getElem?_eq_getElem h2]
          rfl
        · rw [Array.getElem_setIfInBounds_ne _ hij]
    show (List.foldl _ (A.setIfInBounds j (A.getD j undef)) _) = A
    rw [e]
    exact fold_self A r

section
variable {P : Program}
/-- **The rest of a function's code answers true.** -/
theorem tail_script {res : List TypeId} {env : List (Leaf res)} {S : List Sh} {L : List Entry} {w : World} (hm : P.follows .mixedOrders = true) (hN : NamesOK P) (hS : env.map (·.sh) = S) (hT : ToldIn P w.heap.size w (Gs env) (lookT L))
    {n : Nat} {fid : FuncId} {fn : Func} {cd : Code} {A : Array Value} {slots : List Tmp} {ts : AT} {t : Tmp} {R : Ending → World → Prop} (hres : fn.results = #[.tmp t]) (hx : PiecesOK (Gs env) ts (slots.map fun j => A.getD j undef) w)
    (h : runTail P (clsL S) (lookT L) res [] n fid cd A.size slots ts t = true) (hR : ∀ w', Below w.heap.size w w' → R (.returned (.bool true)) w') :
    cd.wpIn Fence.wide 0 P (bodyPost P fn R) { tmps := A, defers := [] } w := by
  unfold runTail at h
  split at h
  · rename_i r hr
    obtain ⟨vs, μ', H', k1, k2, _, k4⟩ := (lay_rep (P := P) (B := w.heap.size) (w0 := w) (shapedS hS) ts _ _ _ _ (bare_rep (G := Gs env) rfl w) hr).2 _ hx
    obtain ⟨_, T', k5, k6⟩ := setAll_TR slots vs _ .nil A _ _ k1 k4 ⟨rfl, fun t v q => by simp [Tr.get] at q⟩
    rw [fold_self] at k6
    have hK := (cb_ok (P := P) (B := w.heap.size) (w0 := w) (G := Gs env) hm hN (oracle_ok (shapedS hS) hT) (D := []) (by simp) n).2.2
    split at k5
    · rename_i a' H2 hcode
      have hc := hK none fid cd _ H' .ret a' H2 hcode μ' w { tmps := A, defers := [] } none rfl k2 ⟨k6, rfl⟩
      refine wpIn_mono (F := Fence.wide) hc ?_
      rintro e c1 w1 ⟨hxr, μ1, _, hact, hrep1⟩
      split at k5
      · rename_i hds
        split at k5
        · rename_i hget
          cases e with
          | ret =>
            have hd : c1.defers = [] := by
              have := hact.2
              rw [hds] at this
              exact this
            have hv : c1.tmps.getD t undef = .bool true := hact.1.2 t _ hget
            exact Go.Num.ret_tmp hres hd hv (hR w1 hrep1.below)
          | _ => exact hxr.elim
        · cases k5
      · cases k5
    · cases k5
  · cases h

/-- A piece of code whose end is one. -/
theorem seq_to {F : Fence} {n : Nat} {x y : Code} {Q : Exit → CAct → World → Prop} {a : CAct} {w : World} {A : CAct} {W : World} (hx : x.wpIn F n P (fun e a' w' => e = .normal ∧ a' = A ∧ w' = W) a w) (hy : y.wpIn F n P Q A W) : (x.seq y).wpIn F n P Q a w := by
  refine wpIn_seq (wpIn_mono hx ?_)
  rintro e a' w' ⟨rfl, rfl, rfl⟩
  exact hy
end

/-- What is handed on: a piece, a row of items, a pointer to an item, a pointer to a cell. -/
inductive AM where
  | pc (t : AT)
  | row (t : AT)
  | cell (t : AT)
  | one (t : AT)
def AM.beq : AM → AM → Bool
  | .pc a, .pc b => a.beq b
  | .row a, .row b => a.beq b
  | .cell a, .cell b => a.beq b
  | .one a, .one b => a.beq b
  | _, _ => false
theorem AM.eq_of_beq {a b : AM} (h : a.beq b = true) : a = b := by
  cases a <;> cases b <;> simp only [AM.beq, Bool.false_eq_true] at h <;> rw [AT.eq_of_beq h]
def items (cls : Tg → Sh) (H : AH) : Nat → AV → Option AT
  | 0, _ => some .nil
  | n + 1, .cons a (.cons b (.cons c r)) => match tagOf cls H (.agg (.cons a (.cons b (.cons c .nil)))), items cls H n r with
    | some t, some ts => some (.cons (.tag t) ts)
    | _, _ => none
  | _ + 1, _ => none
def amOne (cls : Tg → Sh) (H : AH) (a : AV) : Option AM :=
  match a with
  | .slc i o len _ _ e => bif Nat.beq e 3 then match H.cellsAt i o (len * 3) with
      | some cs => (items cls H len cs).map .row
      | none => none
    else none
  | .ptr i 0 => match H.cellsAt i 0 3 with
    | some cs => (match items cls H 1 cs with
      | some (.cons t .nil) => some (.cell t)
      | _ => none)
    | none => match H.cellsAt i 0 1 with
      | some (.cons v .nil) => ((atOf cls H v).1).map .one
      | _ => none
  | a => ((atOf cls H a).1).map .pc
def amOf (cls : Tg → Sh) (H : AH) : AV → Option (List AM)
  | .nil => some []
  | .cons a r => match amOne cls H a, amOf cls H r with
    | some t, some ts => some (t :: ts)
    | _, _ => none
  | _ => none
def oracleM (cls : Tg → Sh) (T : FuncId → List AM → Option AT) (f : FuncId) (args : AV) (H : AH) : Option (AV × AH) :=
  match amOf cls H args with
  | some ts => match T f ts with
    | some rs => layAT cls rs H fun vs H => some (packAV vs, H)
    | none => none
  | none => none
def orO (O1 O2 : FuncId → AV → AH → Option (AV × AH)) (f : FuncId) (args : AV) (H : AH) : Option (AV × AH) :=
  match O1 f args H with
  | some r => some r
  | none => O2 f args H

section
variable {P : Program} {B : Nat} {w0 : World} {G : Sett}

/-- Items of three cells from a place on. -/
def ItemsAt (G : Sett) (w : World) (b : Nat) : Nat → AT → Nat → Prop
  | _, .nil, n => n = 0
  | o, .cons t r, n => ∃ m x0 x1 x2, n = m + 1 ∧ w.cell? ⟨b, o, none⟩ = some x0 ∧ w.cell? ⟨b, o + 1, none⟩ = some x1 ∧ w.cell? ⟨b, o + 2, none⟩ = some x2 ∧ PieceOK G t (.agg #[x0, x1, x2]) w ∧ ItemsAt G w b (o + 3) r m
  | _, _, _ => False
def AMOK (G : Sett) (m : AM) (x : Value) (w : World) : Prop :=
  match m with
  | .pc t => PieceOK G t x w
  | .row ts => ∃ b o n c, x = .slice (some ⟨b, o, none⟩) n c ∧ b < w.heap.size ∧ ItemsAt G w b o ts n
  | .cell t => ∃ b, x = .pointer (some ⟨b, 0, none⟩) ∧ b < w.heap.size ∧ ItemsAt G w b 0 (.cons t .nil) 1
  | .one t => ∃ b v, x = .pointer (some ⟨b, 0, none⟩) ∧ b < w.heap.size ∧ w.cell? ⟨b, 0, none⟩ = some v ∧ PieceOK G t v w
def AMsOK (G : Sett) (w : World) : List AM → List Value → Prop
  | [], xs => xs = []
  | m :: ms, xs => ∃ x r, xs = x :: r ∧ AMOK G m x w ∧ AMsOK G w ms r

theorem items_sound {cls : Tg → Sh} (hs : Shaped G cls) {μ : Mu} {H : AH} {w : World} (h : Rep P B w0 G μ H w) (b : Nat) : ∀ (n : Nat) (cs : AV) (ts : AT) (o : Nat) (xs : List Value), items cls H n cs = some ts → LR μ cs xs → (∀ j v, xs[j]? = some v → w.cell? ⟨b, o + j, none⟩ = some v) → ItemsAt G w b o ts n
  | 0, cs, ts, o, xs, hi, _, _ => by
    simp only [items, Option.some.injEq] at hi
    subst hi
    rfl
  | n + 1, cs, ts, o, xs, hi, hx, hc => by
    unfold items at hi
    split at hi
    · rename_i he; cases he
    · rename_i n' a b' c r he
      cases he
      split at hi
      · rename_i t ts' h1 h2
        cases hi
        obtain ⟨x0, r0, rfl, g0, k0⟩ := hx
        obtain ⟨x1, r1, rfl, g1, k1⟩ := k0
        obtain ⟨x2, r2, rfl, g2, k2⟩ := k1
        refine ⟨n, x0, x1, x2, rfl, hc 0 _ rfl, hc 1 _ rfl, hc 2 _ rfl, tagOf_sound hs h h1 ⟨#[x0, x1, x2], rfl, LR.cons g0 (LR.cons g1 (LR.cons g2 LR.nil))⟩, ?_⟩
        exact items_sound hs h b n r ts' (o + 3) r2 h2 k2 (fun j v hj => by
          have := hc (j + 3) v (by simpa using hj)
          rwa [show o + 3 + j = o + (j + 3) by omega])
      · cases hi
    · cases hi
theorem amOne_sound {cls : Tg → Sh} (hs : Shaped G cls) {μ : Mu} {H : AH} {w : World} (h : Rep P B w0 G μ H w) {a : AV} {m : AM} (hm : amOne cls H a = some m) {x : Value} (hx : VR μ a x) : AMOK G m x w := by
  have plain : ∀ {a : AV}, ((atOf cls H a).1).map AM.pc = some m → VR μ a x → AMOK G m x w := by
    intro a hm hx
    rw [Option.map_eq_some_iff] at hm
    obtain ⟨t, h1, rfl⟩ := hm
    exact (atOf_sound hs h a).1 _ h1 _ hx
  have addE : ∀ (b o j : Nat), ((⟨b, o, none⟩ : Addr).add j) = ⟨b, o + j, none⟩ := fun b o j => by unfold Addr.add; split <;> simp_all
  unfold amOne at hm
  split at hm
  · rename_i i o len cm ex e
    cases he : Nat.beq e 3 with
    | false => rw [he] at hm; cases hm
    | true =>
      rw [he] at hm
      simp only [cond_true] at hm
      split at hm
      · rename_i cs hcs
        rw [Option.map_eq_some_iff] at hm
        obtain ⟨ts, h1, rfl⟩ := hm
        obtain ⟨b, N, c, hb, rfl, _⟩ := hx
        obtain ⟨xs, _, k2, k3⟩ := h.load hcs hb
        exact ⟨b, o, len, c, rfl, (h.dom i b N hb).2, items_sound hs h b len cs ts o xs h1 k2 (fun j v hj => by rw [← addE]; exact k3 j v hj)⟩
      · cases hm
  · rename_i i
    obtain ⟨b, N, hb, rfl⟩ := hx
    split at hm
    · rename_i cs hcs
      split at hm
      · rename_i t h1
        cases hm
        obtain ⟨xs, _, k2, k3⟩ := h.load hcs hb
        exact ⟨b, rfl, (h.dom i b N hb).2, items_sound hs h b 1 cs _ 0 xs h1 k2 (fun j v hj => by rw [← addE]; exact k3 j v hj)⟩
      · cases hm
    · split at hm
      · rename_i v hcs
        rw [Option.map_eq_some_iff] at hm
        obtain ⟨t, h1, rfl⟩ := hm
        obtain ⟨xs, _, k2, k3⟩ := h.load hcs hb
        obtain ⟨y, r, rfl, g1, _⟩ := k2
        exact ⟨b, y, rfl, (h.dom i b N hb).2, k3 0 _ rfl, (atOf_sound hs h v).1 _ h1 _ g1⟩
      · cases hm
  · exact plain hm hx
theorem amOf_sound {cls : Tg → Sh} (hs : Shaped G cls) {μ : Mu} {H : AH} {w : World} (h : Rep P B w0 G μ H w) : ∀ (a : AV) (ms : List AM), amOf cls H a = some ms → ∀ xs, LR μ a xs → AMsOK G w ms xs
  | .nil, ms, hm, xs, hx => by
    simp only [amOf, Option.some.injEq] at hm
    subst hm
    exact hx
  | .cons a r, ms, hm, xs, hx => by
    simp only [amOf] at hm
    split at hm
    · rename_i t ts h1 h2
      cases hm
      obtain ⟨x, r', rfl, g1, g2⟩ := hx
      exact ⟨x, r', rfl, amOne_sound hs h h1 g1, amOf_sound hs h r ts h2 r' g2⟩
    · cases hm
  | .sc _, _, hm, _, _ | .ptr _ _, _, hm, _, _ | .slc _ _ _ _ _ _, _, hm, _, _ | .map _, _, hm, _, _ | .yield _, _, hm, _, _ | .fn _ _ _, _, hm, _, _ | .hc _ _, _, hm, _, _ | .hs _, _, hm, _, _ | .iface _ _, _, hm, _, _ | .agg _, _, hm, _, _ | .tup _, _, hm, _, _ => by simp only [amOf] at hm; cases hm

def ToldM (P : Program) (B : Nat) (w0 : World) (G : Sett) (T : FuncId → List AM → Option AT) : Prop :=
  ∀ f ts rs, T f ts = some rs → (∃ fn : Func, P.funcs[f]? = some fn ∧ fn.body.isSome = true) ∧
    ∀ w (xs : Array Value), Below B w0 w → AMsOK G w ts xs.toList → Calls P f xs w fun e w' => ∃ x, e = .returned x ∧ PackOK G rs x w' ∧ Below w.heap.size w w'
theorem oracleM_ok {cls : Tg → Sh} (hs : Shaped G cls) {T : FuncId → List AM → Option AT} (hT : ToldM P B w0 G T) : CallsOK P B w0 G (oracleM cls T) := by
  intro f args H v H' ho
  unfold oracleM at ho
  split at ho
  · rename_i ts hts
    split at ho
    · rename_i rs hrs
      obtain ⟨h1, h2⟩ := hT _ _ _ hrs
      refine ⟨h1, fun μ w xs hrep hxs => callsIn_wide.2 ((h2 w xs hrep.below (amOf_sound hs hrep args ts hts _ hxs)).mono ?_)⟩
      rintro e w' ⟨x, rfl, hp, hb⟩
      obtain ⟨v', μ', H2, k1, k2, k3, k4⟩ := pack_VR hs (k := fun v H => some (v, H)) (hrep.onto hb) hp ho
      cases k1
      exact ⟨x, μ', rfl, k3, k4, k2⟩
    · cases ho
  · cases ho
theorem orO_ok {O1 O2 : FuncId → AV → AH → Option (AV × AH)} (h1 : CallsOK P B w0 G O1) (h2 : CallsOK P B w0 G O2) : CallsOK P B w0 G (orO O1 O2) := by
  intro f args H v H' ho
  unfold orO at ho
  split at ho
  · rename_i r hr
    cases ho
    exact h1 _ _ _ _ _ hr
  · exact h2 _ _ _ _ _ ho

abbrev EntryM := FuncId × List AM × AT
def beqAMs : List AM → List AM → Bool
  | [], [] => true
  | a :: r, b :: s => a.beq b && beqAMs r s
  | _, _ => false
theorem eq_of_beqAMs : ∀ {a b : List AM}, beqAMs a b = true → a = b
  | [], [], _ => rfl
  | a :: r, b :: s, h => by
    simp only [beqAMs, Bool.and_eq_true] at h
    rw [AM.eq_of_beq h.1, eq_of_beqAMs h.2]
  | [], _ :: _, h => by cases h
  | _ :: _, [], h => by cases h
def lookM : List EntryM → FuncId → List AM → Option AT
  | [], _, _ => none
  | (g, ts, rs) :: r, f, us => bif Nat.beq f g && beqAMs ts us then some rs else lookM r f us
theorem toldM_nil : ToldM P B w0 G (lookM []) := fun _ _ _ q => by cases q
theorem toldM_cons {g : FuncId} {ts : List AM} {rs : AT} {r : List EntryM} (hb : HasBody P g)
    (h : ∀ w (xs : Array Value), Below B w0 w → AMsOK G w ts xs.toList → Calls P g xs w fun e w' => ∃ x, e = .returned x ∧ PackOK G rs x w' ∧ Below w.heap.size w w')
    (k : ToldM P B w0 G (lookM r)) : ToldM P B w0 G (lookM ((g, ts, rs) :: r)) := by
  intro f us rs' q
  unfold lookM at q
  cases hc : Nat.beq f g && beqAMs ts us with
  | true =>
    rw [hc] at q
    simp only [cond_true, Option.some.injEq] at q
    simp only [Bool.and_eq_true] at hc
    have e1 := Nat.eq_of_beq_eq_true hc.1
    have e2 := eq_of_beqAMs hc.2
    subst e1; subst e2; subst q
    exact ⟨hb, h⟩
  | false =>
    rw [hc] at q
    exact k f us rs' q
/-- One argument, two arguments. -/
theorem toldM_1 {g : FuncId} {a : AM} {rs : AT} {r : List EntryM} (hb : HasBody P g)
    (h : ∀ w v, Below B w0 w → AMOK G a v w → CallsIn Fence.wide 0 P g #[v] w fun e w' => ∃ x, e = .returned x ∧ PackOK G rs x w' ∧ Below w.heap.size w w')
    (k : ToldM P B w0 G (lookM r)) : ToldM P B w0 G (lookM ((g, [a], rs) :: r)) := by
  refine toldM_cons hb (fun w xs hw hx => ?_) k
  obtain ⟨v, r, e, h1, h2⟩ := hx
  have h2 : r = [] := h2
  subst h2
  have : xs = #[v] := Array.toList_inj.1 (by simpa using e)
  subst this
  exact callsIn_wide.1 (h w v hw h1)
theorem toldM_2 {g : FuncId} {a b : AM} {rs : AT} {r : List EntryM} (hb : HasBody P g)
    (h : ∀ w v u, Below B w0 w → AMOK G a v w → AMOK G b u w → CallsIn Fence.wide 0 P g #[v, u] w fun e w' => ∃ x, e = .returned x ∧ PackOK G rs x w' ∧ Below w.heap.size w w')
    (k : ToldM P B w0 G (lookM r)) : ToldM P B w0 G (lookM ((g, [a, b], rs) :: r)) := by
  refine toldM_cons hb (fun w xs hw hx => ?_) k
  obtain ⟨v, r, e, h1, u, r2, e2, h2, h3⟩ := hx
  subst e2
  have h3 : r2 = [] := h3
  subst h3
  have : xs = #[v, u] := Array.toList_inj.1 (by simpa using e)
  subst this
  exact callsIn_wide.1 (h w v u hw h1 h2)
end

def seeH (res : List TypeId) (t : Tg) : AH := { res := res, next := 12, objs := Tr.set deep (Tr.set deep .nil 10 (some (.opq t))) 11 (some (.cells 11 0 0 (hcs 10 0 3))), fams := Tr.set deep .nil 11 (some (5, 0)) }
def seeM (b N : Nat) (v : Value) : Mu := ⟨fun j => if j = 11 then some (b, N) else none, fun j => if j = 10 then some v else none⟩

section
variable {P : Program} {B : Nat} {w0 : World} {G : Sett}
theorem see_get {res : List TypeId} {t : Tg} {i : Nat} {o : AObj} (h : (seeH res t).objs.get i = some o) : (i = 11 ∧ o = .cells 11 0 0 (hcs 10 0 3)) ∨ (i = 10 ∧ o = .opq t) := by
  rcases Tr.get_set deep _ 11 _ i o h with ⟨h1, h2⟩ | ⟨_, h2⟩
  · exact .inl ⟨h1, (Option.some.inj h2).symm⟩
  · rcases Tr.get_set deep _ 10 _ i o h2 with ⟨h1, h2⟩ | ⟨_, h2⟩
    · exact .inr ⟨h1, (Option.some.inj h2).symm⟩
    · simp [Tr.get] at h2
theorem see_fam {res : List TypeId} {t : Tg} {i : Nat} {o : Nat × Nat} (h : (seeH res t).fams.get i = some o) : i = 11 ∧ o = (5, 0) := by
  rcases Tr.get_set deep _ 11 _ i o h with ⟨h1, h2⟩ | ⟨_, h2⟩
  · exact ⟨h1, (Option.some.inj h2).symm⟩
  · simp [Tr.get] at h2
theorem see_rep {w : World} (hids : G.ids = []) {t : Tg} {x0 x1 x2 : Value} (hi : G.I t (.agg #[x0, x1, x2]) w) (ho : ∀ x ∈ [x0, x1, x2], x.oneCell' = true) {b : Nat} {arr : Array Value} {te : TypeId} {fz : Nat × Nat} (hb : w.heap[b]? = some (.cells arr te fz))
    (h0 : arr[0]? = some x0) (h1 : arr[1]? = some x1) (h2 : arr[2]? = some x2) : Rep P w.heap.size w G (seeM b arr.size (.agg #[x0, x1, x2])) (seeH G.res t) w := by
  have hlt : b < w.heap.size := (Array.getElem?_eq_some_iff.1 hb).1
  have hsz : 2 < arr.size := (Array.getElem?_eq_some_iff.1 h2).1
  have htk : arr.toList.take 3 = [x0, x1, x2] := by
    have e0 : arr.toList[0]? = some x0 := by simpa using h0
    have e1 : arr.toList[1]? = some x1 := by simpa using h1
    have e2 : arr.toList[2]? = some x2 := by simpa using h2
    match h : arr.toList with
    | [] => rw [h] at e0; simp at e0
    | [_] => rw [h] at e1; simp at e1
    | [_, _] => rw [h] at e2; simp at e2
    | a :: c :: d :: r =>
      rw [h] at e0 e1 e2
      simp at e0 e1 e2
      rw [e0, e1, e2]; rfl
  have hm : ∀ i b' N, seeM b arr.size (.agg #[x0, x1, x2]) i = some (b', N) → i = 11 ∧ b' = b ∧ N = arr.size := by
    intro i b' N e
    have e : (if i = 11 then some (b, arr.size) else none) = some (b', N) := e
    split at e
    · rename_i q; cases e; exact ⟨q, rfl, rfl⟩
    · cases e
  have hLR : LR (seeM b arr.size (.agg #[x0, x1, x2])) (hcs 10 0 3) [x0, x1, x2] := by
    have := hcs_LR (μ := seeM b arr.size (.agg #[x0, x1, x2])) (i := 10) (xs := [x0, x1, x2]) ⟨.agg #[x0, x1, x2], rfl, rfl⟩ ho 3 0 rfl
    simpa using this
  refine { resd := rfl, hdom := ?_, fact := ?_, free := ?_, below := Below.refl _ _, base := Nat.le_refl _, dom := ?_, glob := ?_, own := ?_, sep := ?_, vtop := ?_, tip := ?_, write := ?_, cells := ?_, map := ?_, loop := ?_, defd := ?_ }
  · intro i v e
    have e : (if i = 10 then some (Value.agg #[x0, x1, x2]) else none) = some v := e
    split at e
    · rename_i q; subst q; show 10 < 12; omega
    · cases e
  · intro i t' e
    rcases see_get e with ⟨_, h⟩ | ⟨rfl, h⟩
    · cases h
    · cases h
      exact ⟨_, rfl, hi⟩
  · intro i b' N e hB
    obtain ⟨_, rfl, _⟩ := hm i b' N e
    omega
  · intro i b' N e
    obtain ⟨rfl, rfl, _⟩ := hm i b' N e
    exact ⟨by show 11 < 12; omega, hlt⟩
  · intro g hg
    rw [hids] at hg
    cases hg
  · intro i o e
    rcases see_get e with ⟨rfl, rfl⟩ | ⟨rfl, rfl⟩
    · exact ⟨by show 11 < 12; omega, by show 11 < 12; omega⟩
    · exact ⟨by show 10 < 12; omega, by show 10 < 12; omega⟩
  · intro i j oi oj b' N M e1 e2 m1 m2
    obtain ⟨rfl, _, _⟩ := hm _ _ _ m1
    obtain ⟨rfl, _, _⟩ := hm _ _ _ m2
    rw [e1] at e2
    cases e2
    rfl
  · intro i j fam vi ei ci vj ej cj lw e1 e2 f1 hne
    obtain ⟨rfl, h⟩ := see_fam f1
    cases h
    rcases see_get e2 with ⟨h, _⟩ | ⟨h, _⟩ <;> omega
  · intro i j fam vi ei ci vj ej cj lw b' N M e1 e2 f1
    obtain ⟨rfl, h⟩ := see_fam f1
    cases h
    rcases see_get e2 with ⟨h, _⟩ | ⟨h, _⟩ <;> omega
  · intro i fam ver e cs lw b' N e1 f1
    obtain ⟨rfl, h⟩ := see_fam f1
    cases h
    rcases see_get e1 with ⟨h, _⟩ | ⟨h, _⟩ <;> omega
  · intro i fam ver e cs tip lw b' N e1 f1 hle m1
    obtain ⟨rfl, rfl, rfl⟩ := hm _ _ _ m1
    rcases see_get e1 with ⟨_, h⟩ | ⟨h, _⟩
    · cases h
      refine ⟨arr, te, fz, hb, rfl, by show 3 ≤ arr.size; omega, ?_, fun q => by omega⟩
      show LR _ _ (arr.toList.take 3)
      rw [htk]
      exact hLR
    · omega
  · intro i kt es b' N e1
    rcases see_get e1 with ⟨_, h⟩ | ⟨_, h⟩ <;> cases h
  · intro i st pend fn nt T ps asg bd dd b' N e1
    rcases see_get e1 with ⟨_, h⟩ | ⟨_, h⟩ <;> cases h
  · intro i op b' N e1
    rcases see_get e1 with ⟨_, h⟩ | ⟨_, h⟩ <;> cases h

/-- A function is run on pieces and a pointer. -/
def runS (P : Program) (cls : Tg → Sh) (O : FuncId → AV → AH → Option (AV × AH)) (res : List TypeId) (n : Nat) (f : FuncId) (ts : AT) (t : Tg) : Option AT :=
  layAT cls ts (seeH res t) fun args H => match (cb P [] O [] n).call f (args.app (.cons (.ptr 11 0) .nil)) H with
    | some (v, H') => (match v with | .tup _ => none | _ => (atOf cls H' v).1)
    | none => none
theorem runS_sound (hm : P.follows .mixedOrders = true) (hN : NamesOK P) {cls : Tg → Sh} (hs : Shaped G cls) (hids : G.ids = []) {w : World} {O : FuncId → AV → AH → Option (AV × AH)} (hO : CallsOK P w.heap.size w G O) {n : Nat} {f : FuncId} {ts : AT} {t : Tg} {r : AT}
    (h : runS P cls O G.res n f ts t = some r) {xs : List Value} (hx : PiecesOK G ts xs w) {x0 x1 x2 : Value} (hi : G.I t (.agg #[x0, x1, x2]) w) (ho : ∀ x ∈ [x0, x1, x2], x.oneCell' = true) {b : Nat} {arr : Array Value} {te : TypeId} {fz : Nat × Nat}
    (hb : w.heap[b]? = some (.cells arr te fz)) (h0 : arr[0]? = some x0) (h1 : arr[1]? = some x1) (h2 : arr[2]? = some x2) :
    CallsIn Fence.wide 0 P f (xs ++ [Value.pointer (some ⟨b, 0, none⟩)]).toArray w fun e w' => ∃ x, e = .returned x ∧ PieceOK G r x w' ∧ Below w.heap.size w w' := by
  unfold runS at h
  obtain ⟨vs, μ', H', k1, k2, k3, k4⟩ := (lay_rep hs ts _ _ _ _ (see_rep hids hi ho hb h0 h1 h2) h).2 _ hx
  have hp : VR μ' (.ptr 11 0) (.pointer (some ⟨b, 0, none⟩)) := by
    have : (seeM b arr.size (.agg #[x0, x1, x2])) 11 = some (b, arr.size) := rfl
    exact ⟨b, arr.size, k3.1 _ _ this, rfl⟩
  split at k1
  · rename_i v H2 hcall
    have hxs : LR μ' (vs.app (.cons (.ptr 11 0) .nil)) (xs ++ [Value.pointer (some ⟨b, 0, none⟩)]).toArray.toList := by
      rw [List.toList_toArray]
      exact LR.app (LR.cons hp LR.nil) k4
    refine callsIn_wide.2 ((calls_of_run (G := G) hm hN hO (D := []) (by simp) (by rw [hids]; exact hcall) k2 hxs).mono ?_)
    rintro e w' ⟨x, μ2, rfl, _, hv, hrep⟩
    refine ⟨x, rfl, ?_, hrep.below⟩
    split at k1
    · cases k1
    · exact (atOf_sound hs hrep v).1 _ k1 _ hv
  · cases k1
end
end Go.Eng
