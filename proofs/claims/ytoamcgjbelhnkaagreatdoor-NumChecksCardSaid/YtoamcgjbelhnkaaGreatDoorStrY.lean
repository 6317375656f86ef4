/-
  The texts of the reference's fractions; fractions made; the law NumMakes.
  Conditions: none.
-/
import Derived.Test.YtoamcgjbelhnkaaGreatDoorStrX
import Derived.Test.YtoamcgjbelhnkaaGreatDoorRegX

namespace Go.Num
open Go.Eng Go.Shelf Go.RowKit Go.Sort Go.Proofs Go.Proofs.YtoamcgjbelhnkaaGreatDoor

theorem f34_0 : FieldAt Tryz.prog 34 0 0 := fieldAt_ok (by kernel_rfl)
theorem f34_1 : FieldAt Tryz.prog 34 1 2 := fieldAt_ok (by kernel_rfl)
theorem m32 : LoadMid Tryz.prog 32 2 := loadMid_of (by kernel_rfl) (by kernel_rfl)
theorem m34 : LoadAll Tryz.prog 34 4 := loadAll_of (by kernel_rfl) (by kernel_rfl)
/-- Four cells of a block. -/
def Box4 (w : World) (g : Nat) (x y z u : Value) : Prop := ∀ j v, [x, y, z, u][j]? = some v → w.cell? ⟨g, j, none⟩ = some v
theorem Box4.lt {w : World} {g : Nat} {x y z u : Value} (h : Box4 w g x y z u) : g < w.heap.size := World.block_lt_of_cell? _ _ (h 0 x rfl)
theorem Box4.below {w w' : World} {g : Nat} {x y z u : Value} (h : Box4 w g x y z u) (hb : Below w.heap.size w w') : Box4 w' g x y z u := fun j v hj => (hb.cell (p := ⟨g, j, none⟩) h.lt).trans (h j v hj)
theorem box4_new (w : World) (x y z u : Value) (t : TypeId) : Box4 (w.alloc (.cells #[x, y, z, u] t)) w.heap.size x y z u := fun j v hj => by
  rw [World.cell?_alloc_new, ← hj]
  simp
theorem Box4.lo {w : World} {g : Nat} {x y z u : Value} (h : Box4 w g x y z u) : ∀ j v, [x, y][j]? = some v → w.cell? ⟨g, 0 + j, none⟩ = some v := fun j v hj => by
  match j, hj with
  | 0, hj => exact h 0 v hj
  | 1, hj => exact h 1 v hj
  | n + 2, hj => simp at hj
theorem Box4.hi {w : World} {g : Nat} {x y z u : Value} (h : Box4 w g x y z u) : ∀ j v, [z, u][j]? = some v → w.cell? ⟨g, 2 + j, none⟩ = some v := fun j v hj => by
  match j, hj with
  | 0, hj => exact h 2 v hj
  | 1, hj => exact h 3 v hj
  | n + 2, hj => simp at hj
theorem QAt.parts {w : World} {v : Value} {q : Rat} (h : QAt w v q) : ∃ m1 m2, v = .agg #[.bool (decide (q.num < 0)), m1, .bool false, m2] ∧ ZAt w (.agg #[.bool (decide (q.num < 0)), m1]) q.num ∧ ZAt w (.agg #[.bool false, m2]) (q.den : Int) := by
  obtain ⟨m1, m2, e, h1, h2⟩ := h
  refine ⟨m1, m2, e, ⟨m1, rfl, h1⟩, ⟨m2, ?_, h2⟩⟩
  have : decide ((q.den : Int) < 0) = false := decide_eq_false (by omega)
  rw [this]
set_option maxRecDepth 100000 in
set_option maxHeartbeats 8000000 in
/-- **'Form'.** -/
theorem form_calls (w : World) (v : Value) (q : Rat) (h : QAt w v q) (hq : RatLe q 20000) :
    CallsIn Fence.wide 0 Tryz.prog 73 #[v] w fun e w' => e = .returned (.string (textQ q)) ∧ Below w.heap.size w w' := by
  obtain ⟨m1, m2, rfl, hn, hd⟩ := h.parts
  have HN := Hid.intro hn
  have HD := Hid.intro hd
  obtain ⟨sg, hsg⟩ : ∃ sg, decide (q.num < 0) = sg := ⟨_, rfl⟩
  rw [hsg] at HN
  rw [hsg]
  obtain ⟨W1, hW1⟩ : ∃ W, W = w.alloc (.cells #[.bool sg, m1, .bool false, m2] 34) := ⟨_, rfl⟩
  have HX : Hid (Box4 W1 w.heap.size (.bool sg) m1 (.bool false) m2) := Hid.intro (by rw [hW1]; exact box4_new _ _ _ _ _ _)
  have HBW : Hid (Below w.heap.size w W1) := Hid.intro (by rw [hW1]; exact alloc_below _ _)
  have HP := Hid.intro hq
  clear h hn hd hsg hq
  refine callsIn_of_wp Tryz.func73 rfl trivial ?_ rfl
  simp only [Tryz.ntmps73, List.size_toArray, List.length_cons, List.length_nil, Nat.reduceAdd, Nat.reduceSub, Array.replicate_succ, Array.replicate_zero, List.push_toArray, List.append_toArray, List.nil_append, List.cons_append]
  gi_wp2
  rw [← hW1]
  obtain ⟨g, hg⟩ : ∃ g, w.heap.size = g := ⟨_, rfl⟩
  rw [hg] at HX
  rw [hg]
  clear hW1
  refine wpIn_region_ow (ro := none) [2, 3] [0, 1, 2, 3, 4] [0, 1, 0, 7, 15] follows 19 rfl (by kernel_rfl) (by kernel_rfl) ?_
  replace HX := Hid.intro (HX.out.below (drew_below _))
  replace HBW := Hid.intro (HBW.out.trans ((drew_below W1).mono HBW.out.size))
  refine OW.fieldAddr rfl rfl f34_1 rfl ?_
  simp only [Go.Act.put, List.setIfInBounds_toArray, List.set_cons_succ, List.set_cons_zero]
  refine OW.loadMid rfl rfl m32 (cs := [.bool false, m2]) rfl (by decide) HX.out.hi rfl ?_
  simp only [Go.Act.put, List.setIfInBounds_toArray, List.set_cons_succ, List.set_cons_zero]
  refine OW.call rfl rfl Tryz.func22 rfl namesOK (args := [.int .i64 1]) rfl ?_
  refine (rOf_calls W1.drew 1 (by decide) (by decide)).mono ?_
  rintro e w2 ⟨v5, rfl, hz5, hB⟩
  refine ⟨v5, rfl, hB, ?_⟩
  simp only [Go.Act.put, List.setIfInBounds_toArray, List.set_cons_succ, List.set_cons_zero]
  replace HX := Hid.intro (HX.out.below hB)
  replace HBW := Hid.intro (HBW.out.trans (hB.mono HBW.out.size))
  have HZ5 := Hid.intro hz5
  clear hz5 hB
  refine OW.call rfl rfl Tryz.func69 rfl namesOK (args := [.agg #[.bool false, m2], v5]) rfl ?_
  refine (zcmp_calls w2 _ v5 (q.den : Int) 1 (HD.out.below HBW.out) HZ5.out (lt_lift 50000 HP.out.2 (by decide)) (lt_lift 50000 (show 1 < B ^ 1 by decide) (by decide))).mono ?_
  rintro e w3 ⟨rfl, hB⟩
  refine ⟨_, rfl, hB, ?_⟩
  simp only [Go.Act.put, List.setIfInBounds_toArray, List.set_cons_succ, List.set_cons_zero]
  replace HX := Hid.intro (HX.out.below hB)
  replace HBW := Hid.intro (HBW.out.trans (hB.mono HBW.out.size))
  clear hB HZ5
  refine OW.eqInt rfl rfl rfl rfl ?_
  simp only [Go.Act.put, List.setIfInBounds_toArray, List.set_cons_succ, List.set_cons_zero]
  refine OW.done ?_
  by_cases h1 : q.den = 1
  · have hc : (((q.den : Int) - 1).sign == 0) = true := by rw [h1]; rfl
    rw [hc]
    have y0 := HX.out 0 _ rfl
    have y1 := HX.out 1 _ rfl
    have HT := Hid.intro (textQ_one h1)
    clear h1 hc
    gi_wp2_with (gi_at_call 16; refine stop ?_)
    unfold Stop
    refine (rString_calls w3 _ q.num (HN.out.below HBW.out) (lt_lift 100000 HP.out.1 (by decide))).mono ?_
    rintro e w4 ⟨rfl, hB⟩
    have HB4 := Hid.intro (HBW.out.trans (hB.mono HBW.out.size))
    clear hB
    gi_wp2
    all_goals (first | go_returns | go_ret | go_end0)
    exact ⟨by rw [HT.out]; rfl, HB4.out⟩
  · have hc : (((q.den : Int) - 1).sign == 0) = false := beq_false_of_ne (by
      intro h
      have := Int.sign_eq_zero_iff_zero.1 h
      omega)
    rw [hc]
    have HT := Hid.intro (textQ_more h1)
    have hsz1 := textZ_size (z := q.num) (lt_lift 100000 HP.out.1 (by decide))
    have hsz2 := textN_size (n := q.den) (lt_lift 100000 HP.out.2 (by decide))
    gi_wp2
    refine wpIn_region_ow (ro := none) [2, 6] [0, 1, 4, 5, 2, 3, 6, 7, 8] [0, 1, 3, 7, 0, 16, 55, 127, 255] follows 19 rfl (by kernel_rfl) (by kernel_rfl) ?_
    replace HX := Hid.intro (HX.out.below (drew_below _))
    replace HBW := Hid.intro (HBW.out.trans ((drew_below w3).mono HBW.out.size))
    refine OW.fieldAddr rfl rfl f34_0 rfl ?_
    simp only [Go.Act.put, List.setIfInBounds_toArray, List.set_cons_succ, List.set_cons_zero]
    refine OW.loadMid rfl rfl m32 (cs := [.bool sg, m1]) rfl (by decide) HX.out.lo rfl ?_
    simp only [Go.Act.put, List.setIfInBounds_toArray, List.set_cons_succ, List.set_cons_zero]
    refine OW.fieldAddr rfl rfl f34_1 rfl ?_
    simp only [Go.Act.put, List.setIfInBounds_toArray, List.set_cons_succ, List.set_cons_zero]
    refine OW.loadMid rfl rfl m32 (cs := [.bool false, m2]) rfl (by decide) HX.out.hi rfl ?_
    simp only [Go.Act.put, List.setIfInBounds_toArray, List.set_cons_succ, List.set_cons_zero]
    refine OW.call rfl rfl Tryz.func16 rfl namesOK (args := [.agg #[.bool sg, m1]]) rfl ?_
    refine (rString_calls w3.drew _ q.num (HN.out.below HBW.out) (lt_lift 100000 HP.out.1 (by decide))).mono ?_
    rintro e w4 ⟨rfl, hB⟩
    refine ⟨_, rfl, hB, ?_⟩
    simp only [Go.Act.put, List.setIfInBounds_toArray, List.set_cons_succ, List.set_cons_zero]
    replace HBW := Hid.intro (HBW.out.trans (hB.mono HBW.out.size))
    clear hB
    refine OW.addStr rfl rfl rfl rfl (by show _ + 1 ≤ _; omega) ?_
    simp only [Go.Act.put, List.setIfInBounds_toArray, List.set_cons_succ, List.set_cons_zero]
    refine OW.call rfl rfl Tryz.func16 rfl namesOK (args := [.agg #[.bool false, m2]]) rfl ?_
    refine (rString_calls w4 _ (q.den : Int) (HD.out.below HBW.out) (lt_lift 100000 HP.out.2 (by decide))).mono ?_
    rintro e w5 ⟨rfl, hB⟩
    refine ⟨_, rfl, hB, ?_⟩
    simp only [Go.Act.put, List.setIfInBounds_toArray, List.set_cons_succ, List.set_cons_zero]
    replace HBW := Hid.intro (HBW.out.trans (hB.mono HBW.out.size))
    clear hB
    rw [textZ_pos (z := (q.den : Int)) (by omega), Int.natAbs_natCast]
    refine OW.addStr rfl rfl rfl rfl (by rw [ByteArray.size_append]; show _ + 1 + _ ≤ _; omega) ?_
    simp only [Go.Act.put, List.setIfInBounds_toArray, List.set_cons_succ, List.set_cons_zero]
    refine OW.assign rfl rfl _ rfl ?_
    simp only [Go.Act.put, List.setIfInBounds_toArray, List.set_cons_succ, List.set_cons_zero]
    refine OW.done ?_
    rw [HT.out]
    gi_wp2
    all_goals (first | go_returns | go_ret | go_end0)
    exact ⟨rfl, HBW.out⟩

theorem m25 : LoadAll Tryz.prog 25 3 := l25
set_option maxRecDepth 100000 in
set_option maxHeartbeats 8000000 in
/-- **'is'**: one number, two forms. -/
theorem is_calls (w : World) (u v : Value) (q : Rat) (hu : RatAt w u q) (hv : QAt w v q) (hq : RatLe q 20000) (htab : Pow10 w) :
    CallsIn Fence.wide 0 Tryz.prog 19 #[u, v] w fun e w' => e = .returned (.bool true) ∧ Below w.heap.size w w' := by
  have HU := Hid.intro hu
  have HV := Hid.intro hv
  obtain ⟨vn, vd, rfl, _, _⟩ := hu
  obtain ⟨m1, m2, rfl, _, _⟩ := hv
  obtain ⟨sg, hsg⟩ : ∃ sg, decide (q.num < 0) = sg := ⟨_, rfl⟩
  rw [hsg] at HU HV
  rw [hsg]
  obtain ⟨W0, hW0⟩ : ∃ W, W = w.alloc (.cells #[.bool sg, vn, vd] 25) := ⟨_, rfl⟩
  have h0s : W0.heap.size = w.heap.size + 1 := by rw [hW0]; simp
  obtain ⟨W1, hW1⟩ : ∃ W, W = W0.alloc (.cells #[.bool sg, m1, .bool false, m2] 34) := ⟨_, rfl⟩
  have HX : Hid (Box3 W1 w.heap.size (.bool sg) vn vd) := Hid.intro (by rw [hW1]; exact Box3.below (by rw [hW0]; exact box3_new _ _ _ _ _) (alloc_below _ _))
  have HY : Hid (Box4 W1 (w.heap.size + 1) (.bool sg) m1 (.bool false) m2) := Hid.intro (by rw [hW1, ← h0s]; exact box4_new _ _ _ _ _ _)
  have HBW : Hid (Below w.heap.size w W1) := Hid.intro (by rw [hW1, hW0]; exact (alloc_below _ _).alloc (by simp) _)
  have HP := Hid.intro hq
  have HTab := Hid.intro htab
  clear hsg hq htab
  refine callsIn_of_wp Tryz.func19 rfl trivial ?_ rfl
  simp only [Tryz.ntmps19, List.size_toArray, List.length_cons, List.length_nil, Nat.reduceAdd, Nat.reduceSub, Array.replicate_succ, Array.replicate_zero, List.push_toArray, List.append_toArray, List.nil_append, List.cons_append]
  gi_wp2
  rw [← hW0, ← hW1]
  obtain ⟨g, hg⟩ : ∃ g, w.heap.size = g := ⟨_, rfl⟩
  rw [hg] at HX HY
  rw [hg]
  clear hW0 hW1 h0s
  refine wpIn_region_ow (ro := none) [1, 3] [0, 2, 1, 3, 4, 5] [0, 1, 0, 7, 15, 31] follows 10 rfl (by kernel_rfl) (by kernel_rfl) ?_
  replace HX := Hid.intro (HX.out.below (drew_below _))
  replace HY := Hid.intro (HY.out.below (drew_below _))
  replace HBW := Hid.intro (HBW.out.trans ((drew_below W1).mono HBW.out.size))
  refine OW.loadAll rfl rfl m25 (cs := [.bool sg, vn, vd]) rfl (by decide) HX.out rfl ?_
  simp only [Go.Act.put, List.setIfInBounds_toArray, List.set_cons_succ, List.set_cons_zero]
  refine OW.loadAll rfl rfl m34 (cs := [.bool sg, m1, .bool false, m2]) rfl (by decide) HY.out rfl ?_
  simp only [Go.Act.put, List.setIfInBounds_toArray, List.set_cons_succ, List.set_cons_zero]
  refine OW.call rfl rfl Tryz.func13 rfl namesOK (args := [.agg #[.bool sg, vn, vd]]) rfl ?_
  refine (string_calls W1.drew _ q (HU.out.below HBW.out) (HP.out.mono (by decide)) (HTab.out.below HBW.out)).mono ?_
  rintro e w2 ⟨rfl, hB⟩
  refine ⟨_, rfl, hB, ?_⟩
  simp only [Go.Act.put, List.setIfInBounds_toArray, List.set_cons_succ, List.set_cons_zero]
  replace HBW := Hid.intro (HBW.out.trans (hB.mono HBW.out.size))
  clear hB
  refine OW.call rfl rfl Tryz.func73 rfl namesOK (args := [.agg #[.bool sg, m1, .bool false, m2]]) rfl ?_
  refine (form_calls w2 _ q (HV.out.below HBW.out) HP.out).mono ?_
  rintro e w3 ⟨rfl, hB⟩
  refine ⟨_, rfl, hB, ?_⟩
  simp only [Go.Act.put, List.setIfInBounds_toArray, List.set_cons_succ, List.set_cons_zero]
  replace HBW := Hid.intro (HBW.out.trans (hB.mono HBW.out.size))
  clear hB
  refine OW.eqStr rfl rfl rfl rfl ?_
  simp only [Go.Act.put, List.setIfInBounds_toArray, List.set_cons_succ, List.set_cons_zero]
  refine OW.assign rfl rfl _ rfl ?_
  simp only [Go.Act.put, List.setIfInBounds_toArray, List.set_cons_succ, List.set_cons_zero]
  refine OW.done ?_
  gi_wp2
  all_goals (first | go_returns | go_ret | go_end0)
  exact ⟨rfl, HBW.out⟩
end Go.Num

namespace Go.Num
open Go.Eng Go.Shelf Go.RowKit Go.Sort Go.Proofs Go.Proofs.YtoamcgjbelhnkaaGreatDoor

theorem l34 : LoadAll Tryz.prog 34 4 := m34
theorem NatI.oneNew {w : World} {v u : Value} {x g i : Nat} {e : TypeId} (h : NatI w v x) (hE : Elem w g e) (he : e ≠ 3) : NatI (w.setCell ⟨g, i, none⟩ u) v x := h.setElem hE he
/-- What an integer of the machine fits into. -/
theorem int_small {a : Int} (h1 : -9223372036854775808 ≤ a) (h2 : a ≤ 9223372036854775807) : a.natAbs < B ^ 3 := by
  have : B ^ 3 = 1000000000000000000000000000 := by decide
  omega
theorem ratLe_rat {a b : Int} (ha : a.natAbs < B ^ 3) (hb : b.natAbs < B ^ 3) : RatLe ((a : Rat) / (b : Rat)) 6 := ratLe_div (ratLe_int ha (by decide)) (ratLe_int hb (by decide))

set_option maxRecDepth 100000 in
set_option maxHeartbeats 8000000 in
/-- **'Frac'.** -/
theorem frac_calls (w : World) (a b : Int) (ha1 : -9223372036854775808 ≤ a) (ha2 : a ≤ 9223372036854775807) (hb1 : -9223372036854775808 ≤ b) (hb2 : b ≤ 9223372036854775807) (hb0 : b ≠ 0) :
    CallsIn Fence.wide 0 Tryz.prog 24 #[.int .i64 a, .int .i64 b] w fun e w' => ∃ v', e = .returned v' ∧ QAt w' v' ((a : Rat) / (b : Rat)) ∧ Below w.heap.size w w' := by
  refine callsIn_of_wp Tryz.func24 rfl trivial ?_ rfl
  simp only [Tryz.ntmps24, List.size_toArray, List.length_cons, List.length_nil, Nat.reduceAdd, Nat.reduceSub, Array.replicate_succ, Array.replicate_zero, List.push_toArray, List.append_toArray, List.nil_append, List.cons_append]
  gi_wp2_with (gi_at_call 22; refine stop ?_)
  unfold Stop
  obtain ⟨W1, hW1⟩ : ∃ W, W = w.alloc (.cells #[.bool false, .slice none 0 0, .bool false, .slice none 0 0] 34) := ⟨_, rfl⟩
  rw [← hW1]
  have HBW : Hid (Below w.heap.size w W1) := Hid.intro (by rw [hW1]; exact alloc_below _ _)
  have HA : Hid (ArrAt W1 w.heap.size 4 fun i => [.bool false, .slice none 0 0, .bool false, .slice none 0 0].getD i (.bool false)) := Hid.intro (by
    rw [hW1]
    refine ArrAt.new _ _ _ fun i hi => ?_
    match i, hi with
    | 0, _ => rfl
    | 1, _ => rfl
    | 2, _ => rfl
    | 3, _ => rfl)
  have HE : Hid (Elem W1 w.heap.size 34) := Hid.intro (by rw [hW1]; exact elem_new _ _ _)
  obtain ⟨g, hg⟩ : ∃ g, w.heap.size = g := ⟨_, rfl⟩
  have hgl : g < W1.heap.size := by rw [hW1, ← hg]; simp
  have hgw : w.heap.size ≤ g := by omega
  rw [hg] at HA HE
  rw [hg]
  clear hg hW1
  refine (rOf_calls W1 a ha1 ha2).mono ?_
  rintro e w2 ⟨v2, rfl, hz2, hB⟩
  replace HA := Hid.intro (HA.out.below hgl hB)
  replace HE := Hid.intro (HE.out.below hB hgl)
  replace HBW := Hid.intro (HBW.out.trans (hB.mono HBW.out.size))
  replace hgl := Nat.lt_of_lt_of_le hgl hB.size
  have HZ2 := Hid.intro hz2
  clear hz2 hB
  gi_wp2_with (gi_at_call 22; refine stop ?_)
  unfold Stop
  refine (rOf_calls w2 b hb1 hb2).mono ?_
  rintro e w3 ⟨v3, rfl, hz3, hB⟩
  replace HA := Hid.intro (HA.out.below hgl hB)
  replace HE := Hid.intro (HE.out.below hB hgl)
  replace HBW := Hid.intro (HBW.out.trans (hB.mono HBW.out.size))
  replace hgl := Nat.lt_of_lt_of_le hgl hB.size
  replace HZ2 := Hid.intro (HZ2.out.below hB)
  have HZ3 := Hid.intro hz3
  clear hz3 hB
  gi_wp2_with (gi_at_call 77; refine stop ?_)
  unfold Stop
  refine (ratio_calls w3 v2 v3 a b HZ2.out HZ3.out (lt_lift 20000 (int_small ha1 ha2) (by decide)) (lt_lift 20000 (int_small hb1 hb2) (by decide)) hb0).mono ?_
  rintro e w4 ⟨v4, rfl, ⟨m1, m2, rfl, h1, h2⟩, hB⟩
  replace HA := Hid.intro (HA.out.below hgl hB)
  replace HE := Hid.intro (HE.out.below hB hgl)
  replace HBW := Hid.intro (HBW.out.trans (hB.mono HBW.out.size))
  obtain ⟨o1, k1, c1, rfl, _, _⟩ := natI_len h1
  obtain ⟨o2, k2, c2, rfl, _, _⟩ := natI_len h2
  have H1 := Hid.intro h1
  have H2 := Hid.intro h2
  have y0 := (HA.out 0 (by omega)).1
  have y1 := (HA.out 1 (by omega)).1
  have y2 := (HA.out 2 (by omega)).1
  have y3 := (HA.out 3 (by omega)).1
  have z0 := (HA.out 0 (by omega)).2
  have z1 := (HA.out 1 (by omega)).2
  have z2 := (HA.out 2 (by omega)).2
  have z3 := (HA.out 3 (by omega)).2
  simp only [List.getD_cons_zero, List.getD_cons_succ] at y0 y1 y2 y3
  clear h1 h2 hB HZ2 HZ3
  obtain ⟨sg, hsg⟩ : ∃ sg, decide (((a : Rat) / (b : Rat)).num < 0) = sg := ⟨_, rfl⟩
  rw [hsg]
  gi_wp2
  have ha6 := (((HA.out.set (i := 0) (by omega) (.bool sg)).set (i := 1) (by omega) (.slice o1 k1 c1)).set (i := 2) (by omega) (.bool false)).set (i := 3) (by omega) (.slice o2 k2 c2)
  refine ret_agg (cs := [.bool sg, .slice o1 k1 c1, .bool false, .slice o2 k2 c2]) rfl rfl g rfl l34 rfl ?_ ?_
  · intro j v hj
    match j, hj with
    | 0, hj => cases hj; exact (ha6 0 (by omega)).1
    | 1, hj => cases hj; exact (ha6 1 (by omega)).1
    | 2, hj => cases hj; exact (ha6 2 (by omega)).1
    | 3, hj => cases hj; exact (ha6 3 (by omega)).1
  · have n : ∀ {v : Value} {x : Nat}, NatI w4 v x → NatI ((((w4.setCell ⟨g, 0, none⟩ (.bool sg)).setCell ⟨g, 1, none⟩ (.slice o1 k1 c1)).setCell ⟨g, 2, none⟩ (.bool false)).setCell ⟨g, 3, none⟩ (.slice o2 k2 c2)) v x := fun h =>
      (((h.setElem HE.out (by decide)).setElem (HE.out.setCell _ _) (by decide)).setElem ((HE.out.setCell _ _).setCell _ _) (by decide)).setElem (((HE.out.setCell _ _).setCell _ _).setCell _ _) (by decide)
    refine ⟨_, rfl, ⟨_, _, by rw [hsg], n H1.out, n H2.out⟩, (((HBW.out.setCell hgw _).setCell hgw _).setCell hgw _).setCell hgw _⟩

/-! ### Whole, Zero -/
def envW (z : Int) : Env := ⟨fun k => if k = 7 then 1 else z, fun _ => 0⟩
def tW : TTab := fun f ts =>
  bif Nat.beq f 22 then
    match ts with
    | .cons (.val (.sc (.int .i64 1))) .nil => some (.cons (zs false (.leaf 7)) .nil)
    | _ => none
  else none
theorem told_W (z : Int) : ToldT Tryz.prog (GN (envW z)) tW := by
  intro f ts rs q
  unfold tW at q
  cases hf : Nat.beq f 22 with
  | false => rw [hf] at q; cases q
  | true =>
    rw [hf] at q
    have hf := (beq_iff _ _).1 hf
    subst hf
    refine ⟨⟨_, Tryz.func22, rfl⟩, fun w xs hx => ?_⟩
    simp only [cond_true] at q
    split at q
    · cases q
      obtain ⟨v, r, e, h1, h4⟩ := hx
      have h4 : r = [] := h4
      subst h4
      have e' : xs = #[v] := Array.toList_inj.1 (by simpa using e)
      subst e'
      have h1 : some (Value.int .i64 1) = some v := h1
      cases h1
      refine (callsIn_wide.1 (rOf_calls w 1 (by decide) (by decide))).mono ?_
      rintro e w' ⟨v', rfl, hz, hb⟩
      exact ⟨v', rfl, zs_ok hz rfl rfl, hb⟩
    · cases q
theorem whole_calls (w : World) (v : Value) (z : Int) (h : ZAt w v z) :
    CallsIn Fence.wide 0 Tryz.prog 21 #[v] w fun e w' => ∃ v', e = .returned v' ∧ QAt w' v' (z : Rat) ∧ Below w.heap.size w w' := by
  refine (runZ (told_W z) (n := 50) (r := cellsQ (zc (.leaf 0)) (zs false (.leaf 7))) (ts := .cons (zc (.leaf 0)) .nil) (by kernel_rfl) (xs := #[v]) ⟨v, [], rfl, zc_leaf h rfl, rfl⟩).mono ?_
  rintro e w' ⟨v', rfl, ⟨xs, rfl, a, r, e1, h1, b, r2, rfl, h2, c, r3, rfl, h3, d, r4, rfl, h4, h5⟩, hB⟩
  have h5 : r4 = [] := h5
  subst h5
  have e' : xs = #[a, b, c, d] := Array.toList_inj.1 (by simpa using e1)
  subst e'
  have h3 : some (Value.bool false) = some c := h3
  cases h3
  have h1 : a = .bool (decide (z < 0)) := h1
  subst h1
  exact ⟨_, rfl, ⟨b, d, rfl, h2, h4⟩, hB⟩
end Go.Num

namespace Go.Num
open Go.Eng Go.Shelf Go.RowKit Go.Sort Go.Proofs Go.Proofs.YtoamcgjbelhnkaaGreatDoor

/-- Back with a fraction out of its variable, and another value. -/
theorem ret_rat_two {fn : Func} {p t : Tmp} {R : Ending → World → Prop} {a : Act} {w : World} {x y z x0 x1 x2 u : Value} (h : fn.results = #[.cell p 25, .tmp t]) (hd : a.defers = []) (g : Nat) (hp : a.tmps.getD p undef = .pointer (some ⟨g, 0, none⟩)) (ht : a.tmps.getD t undef = u)
    (h0 : w.cell? ⟨g, 0, none⟩ = some x0) (h1 : w.cell? ⟨g, 1, none⟩ = some x1) (h2 : w.cell? ⟨g, 2, none⟩ = some x2) (hR : R (.returned (.tuple #[.agg #[x, y, z], u])) (((w.setCell ⟨g, 0, none⟩ x).setCell ⟨g, 1, none⟩ y).setCell ⟨g, 2, none⟩ z)) :
    bodyPost Tryz.prog fn R .ret a (((w.setCell ⟨g, 0, none⟩ x).setCell ⟨g, 1, none⟩ y).setCell ⟨g, 2, none⟩ z) := by
  have n01 : (⟨g, 0, none⟩ : Addr) ≠ ⟨g, 1, none⟩ := by intro e; injection e with _ e; omega
  have n02 : (⟨g, 0, none⟩ : Addr) ≠ ⟨g, 2, none⟩ := by intro e; injection e with _ e; omega
  have n12 : (⟨g, 1, none⟩ : Addr) ≠ ⟨g, 2, none⟩ := by intro e; injection e with _ e; omega
  have c0 : (((w.setCell ⟨g, 0, none⟩ x).setCell ⟨g, 1, none⟩ y).setCell ⟨g, 2, none⟩ z).cell? ⟨g, 0, none⟩ = some x := by
    rw [World.cell?_setCell_other _ _ _ _ n02.symm, World.cell?_setCell_other _ _ _ _ n01.symm, World.cell?_setCell_same _ _ _ h0]
  have c1 : (((w.setCell ⟨g, 0, none⟩ x).setCell ⟨g, 1, none⟩ y).setCell ⟨g, 2, none⟩ z).cell? ⟨g, 1, none⟩ = some y := by
    rw [World.cell?_setCell_other _ _ _ _ n12.symm, World.cell?_setCell_same _ _ _ (by rw [World.cell?_setCell_other _ _ _ _ n01]; exact h1)]
  have c2 : (((w.setCell ⟨g, 0, none⟩ x).setCell ⟨g, 1, none⟩ y).setCell ⟨g, 2, none⟩ z).cell? ⟨g, 2, none⟩ = some z := by
    rw [World.cell?_setCell_same _ _ _ (by rw [World.cell?_setCell_other _ _ _ _ n12, World.cell?_setCell_other _ _ _ _ n02]; exact h2)]
  refine bodyPost_ret ?_ hd hR
  have hl := l25 g [x, y, z] (((w.setCell ⟨g, 0, none⟩ x).setCell ⟨g, 1, none⟩ y).setCell ⟨g, 2, none⟩ z) rfl (fun j v hj => by
    match j, hj with
    | 0, hj => rw [← hj]; exact c0
    | 1, hj => rw [← hj]; exact c1
    | 2, hj => rw [← hj]; exact c2
    | n + 3, hj => simp at hj)
  simp only [Instr.loadAt, Instr.sureAddr, Sem.run_bind, Sem.run_pure, Result.andThen_ok] at hl
  have hp' : a.tmps[p]?.getD undef = .pointer (some ⟨g, 0, none⟩) := by rw [← Array.getD_eq_getD_getElem?]; exact hp
  have ht' : a.tmps[t]?.getD undef = u := by rw [← Array.getD_eq_getD_getElem?]; exact ht
  simp [results, h, hp', ht', asAddr, hl]

theorem ret_rat_pair {fn : Func} {p t : Tmp} {R : Ending → World → Prop} {a : Act} {w : World} {x y z u : Value} (h : fn.results = #[.cell p 25, .tmp t]) (hd : a.defers = []) (g : Nat) (hp : a.tmps.getD p undef = .pointer (some ⟨g, 0, none⟩)) (ht : a.tmps.getD t undef = u)
    (hb : Box3 w g x y z) (hR : R (.returned (.tuple #[.agg #[x, y, z], u])) w) : bodyPost Tryz.prog fn R .ret a w := by
  refine bodyPost_ret ?_ hd hR
  have hl := l25 g [x, y, z] w rfl hb
  simp only [Instr.loadAt, Instr.sureAddr, Sem.run_bind, Sem.run_pure, Result.andThen_ok] at hl
  have hp' : a.tmps[p]?.getD undef = .pointer (some ⟨g, 0, none⟩) := by rw [← Array.getD_eq_getD_getElem?]; exact hp
  have ht' : a.tmps[t]?.getD undef = u := by rw [← Array.getD_eq_getD_getElem?]; exact ht
  simp [results, h, hp', ht', asAddr, hl]

theorem ratAt_zero (w : World) : RatAt w (.agg #[.bool false, .slice none 0 0, .slice none 0 0]) 0 := ⟨_, _, rfl, magAt_nil _ _ _, magAt_nil _ _ _⟩

set_option maxRecDepth 100000 in
set_option maxHeartbeats 8000000 in
/-- **'Make'**, by 0. -/
theorem make_zero (w : World) (a : Int) :
    CallsIn Fence.wide 0 Tryz.prog 23 #[.int .i64 a, .int .i64 0] w fun e w' => ∃ v', e = .returned (.tuple #[v', .int .i64 6]) ∧ RatAt w' v' 0 ∧ Below w.heap.size w w' := by
  refine callsIn_of_wp Tryz.func23 rfl trivial ?_ rfl
  simp only [Tryz.ntmps23, List.size_toArray, List.length_cons, List.length_nil, Nat.reduceAdd, Nat.reduceSub, Array.replicate_succ, Array.replicate_zero, List.push_toArray, List.append_toArray, List.nil_append, List.cons_append]
  have HK : Hid (Own3 w (w.alloc (.cells #[.bool false, .slice none 0 0, .slice none 0 0] 25))) := Hid.intro (own3_new _ _ _ _ _)
  obtain ⟨x0, x1, x2, z0, z1, z2, y0, y1, y2⟩ := HK.out.cells
  gi_wp2
  refine ret_rat_pair rfl rfl w.heap.size rfl rfl (box3_new _ _ _ _ _) ?_
  exact ⟨_, rfl, ratAt_zero _, HK.out.2.2⟩

set_option maxRecDepth 100000 in
set_option maxHeartbeats 8000000 in
/-- **'Make'**, by another number. -/
theorem make_calls (w : World) (a b : Int) (ha1 : -9223372036854775808 ≤ a) (ha2 : a ≤ 9223372036854775807) (hb1 : -9223372036854775808 ≤ b) (hb2 : b ≤ 9223372036854775807) (hb0 : b ≠ 0) :
    CallsIn Fence.wide 0 Tryz.prog 23 #[.int .i64 a, .int .i64 b] w fun e w' => ∃ v', e = .returned (.tuple #[v', .int .i64 0]) ∧ RatAt w' v' ((a : Rat) / (b : Rat)) ∧ Below w.heap.size w w' := by
  refine callsIn_of_wp Tryz.func23 rfl trivial ?_ rfl
  simp only [Tryz.ntmps23, List.size_toArray, List.length_cons, List.length_nil, Nat.reduceAdd, Nat.reduceSub, Array.replicate_succ, Array.replicate_zero, List.push_toArray, List.append_toArray, List.nil_append, List.cons_append]
  have hb0' : (b == 0) = false := beq_false_of_ne hb0
  gi_wp2_with (gi_at_call 20; refine stop ?_)
  unfold Stop
  obtain ⟨W, hW⟩ : ∃ W, W = w.alloc (.cells #[.bool false, .slice none 0 0, .slice none 0 0] 25) := ⟨_, rfl⟩
  rw [← hW]
  have HK : Hid (Own3 w W) := by rw [hW]; exact own3_new _ _ _ _ _
  have HE : Hid (Elem W w.heap.size 25) := Hid.intro (by rw [hW]; exact elem_new _ _ _)
  clear hW
  refine (ofN_calls W a ha1 ha2).mono ?_
  rintro e w2 ⟨v2, rfl, hr2, hB⟩
  replace HE := Hid.intro (HE.out.below hB HK.out.2.1)
  replace HK := Hid.intro (HK.out.step hB)
  have HR2 := Hid.intro hr2
  clear hr2 hB
  gi_wp2_with (gi_at_call 20; refine stop ?_)
  unfold Stop
  refine (ofN_calls w2 b hb1 hb2).mono ?_
  rintro e w3 ⟨v3, rfl, hr3, hB⟩
  replace HE := Hid.intro (HE.out.below hB HK.out.2.1)
  replace HK := Hid.intro (HK.out.step hB)
  replace HR2 := Hid.intro (HR2.out.below hB)
  have HR3 := Hid.intro hr3
  clear hr3 hB
  gi_wp2_with (gi_at_call 76; refine stop ?_)
  unfold Stop
  refine (over_calls w3 v2 v3 (a : Rat) (b : Rat) 3 HR2.out HR3.out (ratLe_int (int_small ha1 ha2) (by decide)) (ratLe_int (int_small hb1 hb2) (by decide)) (by rw [rat_ofInt_num]; exact hb0) (by decide)).mono ?_
  rintro e w4 ⟨v4, rfl, hr4, hB⟩
  replace HE := Hid.intro (HE.out.below hB HK.out.2.1)
  replace HK := Hid.intro (HK.out.step hB)
  have HR4 := Hid.intro hr4
  obtain ⟨o, k, c, o2, k2, c2, rfl⟩ := hr4.form
  obtain ⟨x0, x1, x2, z0, z1, z2, y0, y1, y2⟩ := HK.out.cells
  clear hr4 hB HR2 HR3
  obtain ⟨sg, hsg⟩ : ∃ sg, decide (((a : Rat) / (b : Rat)).num < 0) = sg := ⟨_, rfl⟩
  rw [hsg] at HR4
  rw [hsg]
  gi_wp2
  refine ret_rat_two rfl rfl w.heap.size rfl rfl z0 z1 z2 ?_
  have hB := HK.out.2.2
  refine ⟨_, rfl, ?_, ((hB.setCell (Nat.le_refl _) _).setCell (Nat.le_refl _) _).setCell (Nat.le_refl _) _⟩
  exact ((HR4.out.setElem HE.out (by decide)).setElem (HE.out.setCell _ _) (by decide)).setElem ((HE.out.setCell _ _).setCell _ _) (by decide)
end Go.Num

namespace Go.Num
open Go.Eng Go.Shelf Go.RowKit Go.Sort Go.Proofs Go.Proofs.YtoamcgjbelhnkaaGreatDoor

/-- 'awake' answers true behind this world. -/
def Awake (w : World) : Prop := ∀ w', Below w.heap.size w w' → CallsIn Fence.wide 0 Tryz.prog 14 #[] w' fun e w'' => e = .returned (.bool true) ∧ Below w'.heap.size w' w''
theorem Awake.below {w w' : World} (h : Awake w) (hb : Below w.heap.size w w') : Awake w' := fun w2 hb2 => h w2 (hb.trans (hb2.mono hb.size))
def AtRel (R : Act → World → Prop) : Exit → Act → World → Prop
  | .normal, a, w => R a w
  | _, _, _ => False
theorem region_to {F : Fence} {n : Nat} {P : Program} {c : Code} {Q : Exit → Act → World → Prop} {a : Act} {w : World} (R : Act → World → Prop) (h : ∀ a' w', R a' w' → Q .normal a' w') (hr : c.wpIn F n P (AtRel R) a w) : c.wpIn F n P Q a w :=
  wpIn_mono hr fun e a w hh => by
    cases e with
    | normal => exact h a w hh
    | _ => exact hh.elim
theorem ret_tmp {P : Program} {fn : Func} {t : Tmp} {R : Ending → World → Prop} {a : Act} {w : World} {u : Value} (h : fn.results = #[.tmp t]) (hd : a.defers = []) (ht : a.tmps.getD t undef = u) (hR : R (.returned u) w) : bodyPost P fn R .ret a w := by
  refine bodyPost_ret ?_ hd hR
  have ht' : a.tmps[t]?.getD undef = u := by rw [← Array.getD_eq_getD_getElem?]; exact ht
  simp [results, h, ht']
theorem textQ_zero : textQ 0 = ⟨#[48]⟩ := by
  rw [textQ_one rfl]
  exact textZ_zero

set_option maxRecDepth 100000 in
set_option maxHeartbeats 8000000 in
/-- **NumMakes.** -/
theorem numMakes_walk (w : World) (a b : Int) (ha1 : -9223372036854775808 ≤ a) (ha2 : a ≤ 9223372036854775807) (hb1 : -9223372036854775808 ≤ b) (hb2 : b ≤ 9223372036854775807) (htab : Pow10 w) (hAw : Awake w) :
    CallsIn Fence.wide 0 Tryz.prog 4 #[.int .i64 a, .int .i64 b] w fun e w' => e = .returned (.bool true) ∧ Below w.heap.size w w' := by
  have HTab := Hid.intro htab
  have HAw := Hid.intro hAw
  clear htab hAw
  refine callsIn_of_wp Tryz.func4 rfl trivial ?_ rfl
  simp only [Tryz.ntmps4, List.size_toArray, List.length_cons, List.length_nil, Nat.reduceAdd, Nat.reduceSub, Array.replicate_succ, Array.replicate_zero, List.push_toArray, List.append_toArray, List.nil_append, List.cons_append]
  gi_wp2_with (gi_at_call 20; refine stop ?_)
  unfold Stop
  refine (ofN_calls w a ha1 ha2).mono ?_
  rintro e w1 ⟨v1, rfl, hr1, hB⟩
  have HBW : Hid (Below w.heap.size w w1) := Hid.intro hB
  have HR1 := Hid.intro hr1
  clear hr1 hB
  gi_wp2_with (gi_at_call 22; refine stop ?_)
  unfold Stop
  refine (rOf_calls w1 a ha1 ha2).mono ?_
  rintro e w2 ⟨v2, rfl, hz2, hB⟩
  replace HBW := Hid.intro (HBW.out.trans (hB.mono HBW.out.size))
  replace HR1 := Hid.intro (HR1.out.below hB)
  have HZ2 := Hid.intro hz2
  clear hz2 hB
  gi_wp2_with (gi_at_call 21; refine stop ?_)
  unfold Stop
  refine (whole_calls w2 v2 a HZ2.out).mono ?_
  rintro e w3 ⟨v3, rfl, hq3, hB⟩
  replace HBW := Hid.intro (HBW.out.trans (hB.mono HBW.out.size))
  replace HR1 := Hid.intro (HR1.out.below hB)
  have HQ3 := Hid.intro hq3
  clear hq3 hB HZ2
  gi_wp2_with (gi_at_call 19; refine stop ?_)
  unfold Stop
  refine (is_calls w3 v1 v3 (a : Rat) HR1.out HQ3.out (ratLe_int (lt_lift 20000 (int_small ha1 ha2) (by decide)) (by decide)) (HTab.out.below HBW.out)).mono ?_
  rintro e w4 ⟨rfl, hB⟩
  replace HBW := Hid.intro (HBW.out.trans (hB.mono HBW.out.size))
  clear hB HR1 HQ3
  by_cases hb0 : b = 0
  · subst hb0
    gi_wp2_with (gi_at_call 23; refine stop ?_)
    unfold Stop
    refine (make_zero w4 a).mono ?_
    rintro e w5 ⟨v5, rfl, hr5, hB⟩
    replace HBW := Hid.intro (HBW.out.trans (hB.mono HBW.out.size))
    obtain ⟨o, k, c, o2, k2, c2, rfl⟩ := hr5.form
    have HR5 := Hid.intro hr5
    clear hr5 hB
    gi_wp2_with (gi_at_call 13; refine stop ?_)
    unfold Stop
    obtain ⟨W6, hW6⟩ : ∃ W, W = w5.alloc (.cells #[.bool false, .slice o k c, .slice o2 k2 c2] 25) := ⟨_, rfl⟩
    rw [← hW6]
    have HB6 : Hid (Below w5.heap.size w5 W6) := Hid.intro (by rw [hW6]; exact alloc_below _ _)
    replace HBW := Hid.intro (HBW.out.trans (HB6.out.mono HBW.out.size))
    replace HR5 := Hid.intro (HR5.out.below HB6.out)
    clear hW6 HB6
    refine (string_calls W6 _ 0 HR5.out (ratLe_zero (by decide)) (HTab.out.below HBW.out)).mono ?_
    rintro e w7 ⟨rfl, hB⟩
    replace HBW := Hid.intro (HBW.out.trans (hB.mono HBW.out.size))
    rw [textQ_zero]
    clear hB HR5
    gi_wp2_with (gi_at_call 14; refine stop ?_)
    unfold Stop
    refine (HAw.out w7 HBW.out).mono ?_
    rintro e w8 ⟨rfl, hB⟩
    replace HBW := Hid.intro (HBW.out.trans (hB.mono HBW.out.size))
    clear hB
    gi_wp2
    all_goals (first | go_returns | go_ret | go_end0)
    exact ⟨rfl, HBW.out⟩
  · have hb0' : (b == 0) = false := beq_false_of_ne hb0
    gi_wp2_with (gi_at_call 23; refine stop ?_)
    unfold Stop
    refine (make_calls w4 a b ha1 ha2 hb1 hb2 hb0).mono ?_
    rintro e w5 ⟨v5, rfl, hr5, hB⟩
    replace HBW := Hid.intro (HBW.out.trans (hB.mono HBW.out.size))
    obtain ⟨o, k, c, o2, k2, c2, rfl⟩ := hr5.form
    have HR5 := Hid.intro hr5
    clear hr5 hB
    obtain ⟨sg, hsg⟩ : ∃ sg, decide (((a : Rat) / (b : Rat)).num < 0) = sg := ⟨_, rfl⟩
    rw [hsg] at HR5
    rw [hsg]
    gi_wp2
    obtain ⟨W6, hW6⟩ : ∃ W, W = w5.alloc (.cells #[.bool sg, .slice o k c, .slice o2 k2 c2] 25) := ⟨_, rfl⟩
    rw [← hW6]
    have HB6 : Hid (Below w5.heap.size w5 W6) := Hid.intro (by rw [hW6]; exact alloc_below _ _)
    have HX : Hid (Box3 W6 w5.heap.size (.bool sg) (.slice o k c) (.slice o2 k2 c2)) := Hid.intro (by rw [hW6]; exact box3_new _ _ _ _ _)
    replace HBW := Hid.intro (HBW.out.trans (HB6.out.mono HBW.out.size))
    replace HR5 := Hid.intro (HR5.out.below HB6.out)
    have d0 := HX.out.c0
    have d1 := HX.out.c1
    have d2 := HX.out.c2
    have hgl := HX.out.lt
    have HBk : Hid (Below W6.heap.size W6 W6) := Below.refl _ _
    have HQL : Hid (RatLe ((a : Rat) / (b : Rat)) 20000) := Hid.intro ((ratLe_rat (int_small ha1 ha2) (int_small hb1 hb2)).mono (by decide))
    clear hW6 HB6 hsg
    refine region_to (fun a' w' => a'.tmps.getD 4 undef = .bool true ∧ a'.defers = [] ∧ Below W6.heap.size W6 w') ?rest ?reg
    case reg =>
      gi_region_with (first
        | (gi_at_call 24; refine (frac_calls W6.drew a b ha1 ha2 hb1 hb2 hb0).mono ?_; rintro e x7 ⟨q7, rfl, hq, hB⟩; have HQ7 := Hid.intro hq; have HBk := Hid.intro (HBk.out.drew.trans (hB.mono HBk.out.drew.size)); have d0 := (hB.cell (p := ⟨w5.heap.size, 0, none⟩) hgl).trans d0; have d1 := (hB.cell (p := ⟨w5.heap.size, 1, none⟩) hgl).trans d1; have d2 := (hB.cell (p := ⟨w5.heap.size, 2, none⟩) hgl).trans d2; clear hq hB)
        | (gi_at_call 19; refine (is_calls x7 _ q7 ((a : Rat) / (b : Rat)) (HR5.out.below HBk.out) HQ7.out HQL.out (HTab.out.below (HBW.out.trans (HBk.out.mono HBW.out.size)))).mono ?_; rintro e x8 ⟨rfl, hB⟩; have HBk := Hid.intro (HBk.out.trans (hB.mono HBk.out.size)); clear hB)
        | (gi_at_call 14; refine (HAw.out x8 (HBW.out.trans (HBk.out.mono HBW.out.size))).mono ?_; rintro e x9 ⟨rfl, hB⟩; have HBk := Hid.intro (HBk.out.trans (hB.mono HBk.out.size)); clear hB))
      all_goals exact ⟨rfl, rfl, HBk.out⟩
    case rest =>
      rintro a' w' ⟨h4, hd, hB⟩
      gi_wp2
      exact ret_tmp rfl hd h4 ⟨rfl, HBW.out.trans (hB.mono HBW.out.size)⟩
end Go.Num
