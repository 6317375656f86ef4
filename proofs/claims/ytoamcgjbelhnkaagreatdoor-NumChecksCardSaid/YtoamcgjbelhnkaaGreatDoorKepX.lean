/-
  How long a number may be; what the program's operations answer, whatever the size.
  Conditions: none.
-/
import Derived.Test.YtoamcgjbelhnkaaGreatDoorStrY
import Derived.Test.YtoamcgjbelhnkaaGreatDoorAwkX
import Derived.Test.YtoamcgjbelhnkaaGreatDoorEngW

namespace Go.Num
open Go.Eng Go.Shelf Go.RowKit Go.Sort Go.Proofs Go.Proofs.YtoamcgjbelhnkaaGreatDoor

/-- A magnitude that is written by at most so many digits. -/
def SmallN (n : Nat) : Bool := decide (Lib.nDigits n ≤ 20000)

set_option maxRecDepth 100000 in
set_option maxHeartbeats 8000000 in
/-- **'isSmall'.** -/
theorem isSmall_calls (w : World) (v : Value) (n : Nat) (h : MagAt w v n) (hn : n < B ^ 100000) (htab : Pow10 w) :
    CallsIn Fence.wide 0 Tryz.prog 110 #[v] w fun e w' => e = .returned (.bool (SmallN n)) ∧ Below w.heap.size w w' := by
  have HM := Hid.intro h
  have HN := Hid.intro hn
  have HTab := Hid.intro htab
  obtain ⟨k, hk, hl⟩ := h
  obtain ⟨o, c, rfl, _⟩ := hl.form
  have HK := Hid.intro hk
  clear hk hl hn htab
  refine callsIn_of_wp Tryz.func110 rfl trivial ?_ rfl
  simp only [Tryz.ntmps110, List.size_toArray, List.length_cons, List.length_nil, Nat.reduceAdd, Nat.reduceSub, Array.replicate_succ, Array.replicate_zero, List.push_toArray, List.append_toArray, List.nil_append, List.cons_append]
  by_cases hk2 : k ≤ 2222
  · have hkd : decide ((k : Int) ≤ 2222) = true := decide_eq_true (by omega)
    have HS : Hid (SmallN n = true) := Hid.intro (decide_eq_true (by
      rcases Nat.eq_zero_or_pos k with h0 | h0
      · subst h0
        rw [HK.out.zero, Lib.nDigits_small (by decide)]; decide
      · have h1 := nDigits_pow h0 HK.out.1
        omega))
    gi_wp2
    all_goals (first | go_returns | go_ret | go_end0)
    exact ⟨by rw [HS.out]; rfl, Below.refl _ _⟩
  · have hkd : decide ((k : Int) ≤ 2222) = false := decide_eq_false (by omega)
    gi_wp2_with (gi_at_call 71; refine stop ?_)
    unfold Stop
    refine (mString_calls w _ n HM.out HN.out HTab.out).mono ?_
    rintro e w2 ⟨rfl, hB⟩
    obtain ⟨S, hS⟩ : ∃ S : ByteArray, (⟨(Lib.decDigits n).toArray⟩ : ByteArray) = S := ⟨_, rfl⟩
    have hsz : S.size = Lib.nDigits n := by rw [← hS, bytes_size, Lib.decDigits_length]
    rw [hS]
    obtain ⟨d, hd⟩ : ∃ d, Lib.nDigits n = d := ⟨_, rfl⟩
    have HS : Hid (SmallN n = decide (d ≤ 20000)) := Hid.intro (by unfold SmallN; rw [hd])
    rw [hd] at hsz
    clear hS hd
    gi_wp2
    all_goals (first | go_returns | go_ret | go_end0)
    refine ⟨?_, hB⟩
    rw [HS.out]
    show Ending.returned (Value.bool (decide ((d : Int) ≤ 20000))) = Ending.returned (Value.bool (decide (d ≤ 20000)))
    rw [show decide ((d : Int) ≤ 20000) = decide (d ≤ 20000) from decide_eq_decide.2 (by omega)]

/-- A fraction that may be kept. -/
def Kept1 (q : Rat) : Bool := SmallN q.num.natAbs && SmallN (if q.den = 1 then 0 else q.den)

set_option maxRecDepth 100000 in
set_option maxHeartbeats 8000000 in
/-- **'kept'**, of a fraction that may be kept. -/
theorem kept_calls (w : World) (v : Value) (q : Rat) (h : RatAt w v q) (hq : RatLe q 100000) (hs : Kept1 q = true) (htab : Pow10 w) :
    CallsIn Fence.wide 0 Tryz.prog 67 #[v] w fun e w' => ∃ v', e = .returned v' ∧ RatAt w' v' q ∧ Below w.heap.size w w' := by
  have HR := Hid.intro h
  obtain ⟨vn, vd, rfl, hn, hd⟩ := h
  have HN := Hid.intro hn
  have HD := Hid.intro hd
  obtain ⟨sg, hsg⟩ : ∃ sg, decide (q.num < 0) = sg := ⟨_, rfl⟩
  obtain ⟨o1, k1, c1, rfl, _, _⟩ := mag_len hn
  obtain ⟨o2, k2, c2, rfl, _, _⟩ := mag_len hd
  rw [hsg] at HR
  rw [hsg]
  have hs1 : SmallN q.num.natAbs = true := by unfold Kept1 at hs; rw [Bool.and_eq_true] at hs; exact hs.1
  have hs2 : SmallN (if q.den = 1 then 0 else q.den) = true := by unfold Kept1 at hs; rw [Bool.and_eq_true] at hs; exact hs.2
  have HS1 := Hid.intro hs1
  have HS2 := Hid.intro hs2
  obtain ⟨W0, hW0⟩ : ∃ W, W = w.alloc (.cells #[.bool sg, .slice o1 k1 c1, .slice o2 k2 c2] 25) := ⟨_, rfl⟩
  have h0s : W0.heap.size = w.heap.size + 1 := by rw [hW0]; simp
  obtain ⟨W1, hW1⟩ : ∃ W, W = W0.alloc (.cells #[.bool false, .slice none 0 0, .slice none 0 0] 25) := ⟨_, rfl⟩
  have HX : Hid (Box3 W1 w.heap.size (.bool sg) (.slice o1 k1 c1) (.slice o2 k2 c2)) := Hid.intro (by rw [hW1]; exact Box3.below (by rw [hW0]; exact box3_new _ _ _ _ _) (alloc_below _ _))
  have HK : Hid (Own3 W0 W1) := by rw [hW1]; exact own3_new _ _ _ _ _
  have HE : Hid (Elem W1 W0.heap.size 25) := Hid.intro (by rw [hW1]; exact elem_new _ _ _)
  have HB0 : Hid (Below w.heap.size w W0) := Hid.intro (by rw [hW0]; exact alloc_below _ _)
  have HBW : Hid (Below w.heap.size w W1) := Hid.intro (HB0.out.trans (HK.out.2.2.mono HB0.out.size))
  have HP := Hid.intro hq
  have HTab := Hid.intro htab
  have y0 := HX.out.c0
  have y1 := HX.out.c1
  have y2 := HX.out.c2
  clear hn hd hsg hq htab hs hs1 hs2
  refine callsIn_of_wp Tryz.func67 rfl trivial ?_ rfl
  simp only [Tryz.ntmps67, List.size_toArray, List.length_cons, List.length_nil, Nat.reduceAdd, Nat.reduceSub, Array.replicate_succ, Array.replicate_zero, List.push_toArray, List.append_toArray, List.nil_append, List.cons_append]
  gi_wp2_with (gi_at_call 110; refine stop ?_)
  unfold Stop
  rw [← hW0, ← hW1]
  obtain ⟨g, hg⟩ : ∃ g, w.heap.size = g := ⟨_, rfl⟩
  rw [hg] at HX h0s y0 y1 y2
  rw [hg]
  obtain ⟨g2, hg2⟩ : ∃ g2, W0.heap.size = g2 := ⟨_, rfl⟩
  have hg2' : g + 1 = g2 := by omega
  have HE2 : Hid (Elem W1 g2 25) := by rw [← hg2]; exact HE
  have HA2 : Hid (∃ f, ArrAt W1 g2 3 f) := by rw [← hg2]; exact HK.out.1
  have hl2 : g2 < W1.heap.size := by rw [← hg2]; exact HK.out.2.1
  have hgw : w.heap.size ≤ g2 := by omega
  rw [hg2']
  clear hW0 hW1 HE HK HB0 h0s hg2 hg
  refine (isSmall_calls W1 _ _ (HN.out.below HBW.out) HP.out.1 (HTab.out.below HBW.out)).mono ?_
  rintro e w2 ⟨rfl, hB⟩
  replace HX := Hid.intro (HX.out.below hB)
  replace HBW := Hid.intro (HBW.out.trans (hB.mono HBW.out.size))
  replace HE2 := Hid.intro (HE2.out.below hB hl2)
  replace HA2 : Hid (∃ f, ArrAt w2 g2 3 f) := Hid.intro (HA2.out.elim fun f hf => ⟨f, hf.below hl2 hB⟩)
  replace hl2 := Nat.lt_of_lt_of_le hl2 hB.size
  rw [HS1.out]
  replace y0 := HX.out.c0
  replace y1 := HX.out.c1
  replace y2 := HX.out.c2
  clear hB
  gi_wp2_with (gi_at_call 110; refine stop ?_)
  unfold Stop
  refine (isSmall_calls w2 _ _ (HD.out.below HBW.out) (by split; exact pow_pos' 100000; exact HP.out.2) (HTab.out.below HBW.out)).mono ?_
  rintro e w3 ⟨rfl, hB⟩
  replace HX := Hid.intro (HX.out.below hB)
  replace HBW := Hid.intro (HBW.out.trans (hB.mono HBW.out.size))
  replace HE2 := Hid.intro (HE2.out.below hB hl2)
  replace HA2 : Hid (∃ f, ArrAt w3 g2 3 f) := Hid.intro (HA2.out.elim fun f hf => ⟨f, hf.below hl2 hB⟩)
  rw [HS2.out]
  replace y0 := HX.out.c0
  replace y1 := HX.out.c1
  replace y2 := HX.out.c2
  replace HR := Hid.intro (HR.out.below HBW.out)
  obtain ⟨f, hf⟩ := HA2.out
  have z0 := (hf 0 (by omega)).1
  have z1 := (hf 1 (by omega)).1
  have z2 := (hf 2 (by omega)).1
  have f0 := (hf 0 (by omega)).2
  have f1 := (hf 1 (by omega)).2
  have f2 := (hf 2 (by omega)).2
  clear hB HA2
  gi_wp2
  refine ret_rat3 rfl rfl g2 rfl z0 z1 z2 ?_
  refine ⟨_, rfl, ?_, ((HBW.out.setCell hgw _).setCell hgw _).setCell hgw _⟩
  exact ((HR.out.setElem HE2.out (by decide)).setElem (HE2.out.setCell _ _) (by decide)).setElem ((HE2.out.setCell _ _).setCell _ _) (by decide)
end Go.Num

namespace Go.Num
open Go.Eng Go.Shelf Go.RowKit Go.Proofs Go.Proofs.YtoamcgjbelhnkaaGreatDoor

theorem l26 : LoadOne Tryz.prog 26 := loadOne_of (by kernel_rfl)
set_option maxRecDepth 100000 in
set_option maxHeartbeats 8000000 in
/-- **'attempt'**, of a fraction that may be kept. -/
theorem attempt_calls (w : World) (v : Value) (q : Rat) (h : RatAt w v q) (hq : RatLe q 100000) (hs : Kept1 q = true) (htab : Pow10 w) :
    CallsIn Fence.wide 0 Tryz.prog 66 #[.func (.func 67) #[v] #[]] w fun e w' => ∃ v', e = .returned (.tuple #[v', .int .i64 0]) ∧ RatAt w' v' q ∧ Below w.heap.size w w' := by
  have hmf : ∀ (fn : Fn) (first cap : Array Value) (w : World), (Instr.makeFunc fn first cap).run Tryz.prog w = .ok (.func fn first cap) w := fun _ _ _ _ => rfl
  have HR := Hid.intro h
  have HP := Hid.intro hq
  have HS := Hid.intro hs
  have HTab := Hid.intro htab
  obtain ⟨o, k, c, o2, k2, c2, rfl⟩ := h.form
  clear h hq hs htab
  gi_enter_defers Tryz.func66, Tryz.ntmps66
  gi_wp2_with (gi_at_call 67; refine stop ?_)
  unfold Stop
  obtain ⟨W0, hW0⟩ : ∃ W, W = w.alloc (.cells #[.bool false, .slice none 0 0, .slice none 0 0] 25) := ⟨_, rfl⟩
  have h0s : W0.heap.size = w.heap.size + 1 := by rw [hW0]; simp
  obtain ⟨W1, hW1⟩ : ∃ W, W = W0.alloc (.cells #[.int .i64 0] 26) := ⟨_, rfl⟩
  rw [← hW0, ← hW1]
  have HA : Hid (∃ f, ArrAt W1 w.heap.size 3 f) := Hid.intro ⟨fun i => [.bool false, .slice none 0 0, .slice none 0 0].getD i (.bool false), by
    rw [hW1]
    refine ArrAt.alloc ?_ (by omega) _
    rw [hW0]
    exact ArrAt.new _ _ _ fun i hi => by
      have : i = 0 ∨ i = 1 ∨ i = 2 := by omega
      rcases this with rfl | rfl | rfl <;> rfl⟩
  have HA2 : Hid (∃ f, ArrAt W1 (w.heap.size + 1) 1 f) := Hid.intro ⟨fun i => .int .i64 0, by
    rw [hW1, ← h0s]
    exact ArrAt.new _ _ _ fun i hi => by
      have : i = 0 := by omega
      rw [this]; rfl⟩
  have HE : Hid (Elem W1 w.heap.size 25) := Hid.intro ((by rw [hW0]; exact elem_new _ _ _ : Elem W0 w.heap.size 25).below (by rw [hW1]; exact alloc_below _ _) (by omega))
  have HE2 : Hid (Elem W1 (w.heap.size + 1) 26) := Hid.intro (by rw [hW1, ← h0s]; exact elem_new _ _ _)
  have HBW : Hid (Below w.heap.size w W1) := Hid.intro (by rw [hW1, hW0]; exact (alloc_below _ _).alloc (by simp) _)
  have hl : w.heap.size + 1 < W1.heap.size := by rw [hW1]; simp; omega
  obtain ⟨g, hg⟩ : ∃ g, w.heap.size = g := ⟨_, rfl⟩
  rw [hg] at HA HA2 HE HE2 hl
  rw [hg]
  have hgw : w.heap.size ≤ g := by omega
  clear hW0 hW1 h0s hg
  refine (kept_calls W1 _ q (HR.out.below HBW.out) HP.out HS.out (HTab.out.below HBW.out)).mono ?_
  rintro e w2 ⟨v2, rfl, hr2, hB⟩
  obtain ⟨p, l, d, p2, l2, d2, rfl⟩ := hr2.form
  have HR2 := Hid.intro hr2
  replace HBW := Hid.intro (HBW.out.trans (hB.mono HBW.out.size))
  replace HE := Hid.intro (HE.out.below hB (by omega))
  replace HE2 := Hid.intro (HE2.out.below hB (by omega))
  obtain ⟨f, hf⟩ := HA.out
  obtain ⟨f2, hf2⟩ := HA2.out
  have ha := hf.below (by omega) hB
  have ha2 := hf2.below (by omega) hB
  have z0 := (ha 0 (by omega)).1
  have z1 := (ha 1 (by omega)).1
  have z2 := (ha 2 (by omega)).1
  have y0 := (ha 0 (by omega)).2
  have y1 := (ha 1 (by omega)).2
  have y2 := (ha 2 (by omega)).2
  have x0 := (ha2 0 (by omega)).1
  have x1 := (ha2 0 (by omega)).2
  have HA9 := Hid.intro ha
  have HA8 := Hid.intro ha2
  clear hr2 hB ha ha2 hf hf2 HA HA2
  obtain ⟨sg, hsg⟩ : ∃ sg, decide (q.num < 0) = sg := ⟨_, rfl⟩
  rw [hsg] at HR2
  rw [hsg]
  gi_wp2
  have hB3 : Below w.heap.size w ((((w2.setCell ⟨g, 0, none⟩ (.bool sg)).setCell ⟨g, 1, none⟩ (.slice p l d)).setCell ⟨g, 2, none⟩ (.slice p2 l2 d2)).setCell ⟨g + 1, 0, none⟩ (.int .i64 0)) :=
    (((HBW.out.setCell hgw _).setCell hgw _).setCell hgw _).setCell (by show w.heap.size ≤ g + 1; omega) _
  refine leavesIn_cons (f := 109) (args := #[.pointer (some ⟨g, 0, none⟩), .pointer (some ⟨g + 1, 0, none⟩)]) (by simp) (by simp) (by simp [go_sem]) (by simp [Target.leads]) ?_
  refine (still_109.2 _ _).mono ?_
  rintro e u' w'' ⟨⟨v3, rfl⟩, rfl, hh, hb⟩
  refine ⟨.tuple #[.agg #[.bool sg, .slice p l d, .slice p2 l2 d2], .int .i64 0], ?_, _, rfl, ?_, ?_⟩
  · have h3 := ((HA9.out.set (i := 0) (by omega) (.bool sg)).set (i := 1) (by omega) (.slice p l d)).set (i := 2) (by omega) (.slice p2 l2 d2)
    have n3 : ∀ j : Nat, (⟨g, j, none⟩ : Addr) ≠ ⟨g + 1, 0, none⟩ := fun j e => by injection e with e _ _; omega
    have n4 : ∀ j : Nat, (⟨g + 1, 0, none⟩ : Addr) ≠ ⟨g, j, none⟩ := fun j e => by injection e with e _ _; omega
    have b3 : Box3 ((((w2.setCell ⟨g, 0, none⟩ (.bool sg)).setCell ⟨g, 1, none⟩ (.slice p l d)).setCell ⟨g, 2, none⟩ (.slice p2 l2 d2)).setCell ⟨g + 1, 0, none⟩ (.int .i64 0)) g (.bool sg) (.slice p l d) (.slice p2 l2 d2) := fun j v hj => by
      rw [World.cell?_setCell_other _ _ _ _ (n4 j)]
      match j, hj with
      | 0, hj => rw [← hj]; exact (h3 0 (by omega)).1
      | 1, hj => rw [← hj]; exact (h3 1 (by omega)).1
      | 2, hj => rw [← hj]; exact (h3 2 (by omega)).1
      | n + 3, hj => simp at hj
    have c3 : ((((w2.setCell ⟨g, 0, none⟩ (.bool sg)).setCell ⟨g, 1, none⟩ (.slice p l d)).setCell ⟨g, 2, none⟩ (.slice p2 l2 d2)).setCell ⟨g + 1, 0, none⟩ (.int .i64 0)).cell? ⟨g + 1, 0, none⟩ = some (.int .i64 0) :=
      World.cell?_setCell_same _ _ _ (by rw [World.cell?_setCell_other _ _ _ _ (n3 2), World.cell?_setCell_other _ _ _ _ (n3 1), World.cell?_setCell_other _ _ _ _ (n3 0)]; exact x0)
    have e1 := l25 g [.bool sg, .slice p l d, .slice p2 l2 d2] w'' rfl (b3.below hb)
    have e2 := l26 ⟨g + 1, 0, none⟩ _ w'' ((hb.cell (World.block_lt_of_cell? _ _ c3)).trans c3)
    simp only [Instr.loadAt, Instr.sureAddr, Sem.run_bind, Sem.run_pure, Result.andThen_ok] at e1 e2
    simp [results, asAddr, e1, e2]
  · have h4 := (((HR2.out.setElem (i := 0) (u := .bool sg) HE.out (by decide)).setElem (i := 1) (u := .slice p l d) (HE.out.setCell _ _) (by decide)).setElem (i := 2) (u := .slice p2 l2 d2) ((HE.out.setCell _ _).setCell _ _) (by decide)).setElem (i := 0) (u := .int .i64 0) (((HE2.out.setCell _ _).setCell _ _).setCell _ _) (by decide)
    exact h4.below hb
  · exact hB3.trans (hb.mono hB3.size)
end Go.Num

namespace Go.Num
open Go.Eng Go.Shelf Go.RowKit Go.Proofs Go.Proofs.YtoamcgjbelhnkaaGreatDoor

set_option maxRecDepth 100000 in
set_option maxHeartbeats 8000000 in
/-- **addR.** -/
theorem addR_calls (w : World) (va vb : Value) (p q : Rat) (L : Nat) (ha : RatAt w va p) (hb : RatAt w vb q) (hp : RatLe p L) (hq : RatLe q L) (hL : L ≤ 1000000) (hr : RatLe (p + q) 100000) (hs : Kept1 (p + q) = true) (htab : Pow10 w) :
    CallsIn Fence.wide 0 Tryz.prog 39 #[va, vb] w fun e w' => ∃ v', e = .returned (.tuple #[v', .int .i64 0]) ∧ RatAt w' v' (p + q) ∧ Below w.heap.size w w' := by
  have HA := Hid.intro ha
  have HB := Hid.intro hb
  have HP := Hid.intro hp
  have HQ := Hid.intro hq
  have HR := Hid.intro hr
  have HS := Hid.intro hs
  have HTab := Hid.intro htab
  obtain ⟨o1, k1, c1, o2, k2, c2, rfl⟩ := ha.form
  obtain ⟨o3, k3, c3, o4, k4, c4, rfl⟩ := hb.form
  obtain ⟨sa, hsa⟩ : ∃ sa, decide (p.num < 0) = sa := ⟨_, rfl⟩
  obtain ⟨sb, hsb⟩ : ∃ sb, decide (q.num < 0) = sb := ⟨_, rfl⟩
  rw [hsa] at HA
  rw [hsb] at HB
  rw [hsa, hsb]
  clear ha hb hp hq hr hs htab hsa hsb
  refine callsIn_of_wp Tryz.func39 rfl trivial ?_ rfl
  simp only [Tryz.ntmps39, List.size_toArray, List.length_cons, List.length_nil, Nat.reduceAdd, Nat.reduceSub, Array.replicate_succ, Array.replicate_zero, List.push_toArray, List.append_toArray, List.nil_append, List.cons_append]
  gi_wp2_with (gi_at_call 93; refine stop ?_)
  unfold Stop
  obtain ⟨W, hW⟩ : ∃ W, W = ((w.alloc (Obj.cells #[Value.bool sa, .slice o1 k1 c1, .slice o2 k2 c2] 25)).alloc (Obj.cells #[Value.bool sb, .slice o3 k3 c3, .slice o4 k4 c4] 25)).alloc (Obj.cells #[Value.bool false, Value.slice none 0 0, Value.slice none 0 0] 25) := ⟨_, rfl⟩
  rw [← hW]
  have HK : Hid (RatKept w W w.heap.size (.bool sa) (.slice o1 k1 c1) (.slice o2 k2 c2) (.bool sb) (.slice o3 k3 c3) (.slice o4 k4 c4)) := by
    rw [hW]; exact ratKept_new w _ _ _ _ _ _ _ _ _ _
  obtain ⟨g, hg⟩ : ∃ g, w.heap.size = g := ⟨_, rfl⟩
  rw [hg] at HK
  rw [hg]
  clear hW
  refine (plus_calls W _ _ p q L (HA.out.below HK.out.below) (HB.out.below HK.out.below) HP.out HQ.out hL).mono ?_
  rintro e w2 ⟨v2, rfl, hr2, hB⟩
  replace HK := Hid.intro (HK.out.step hB)
  have HR2 := Hid.intro hr2
  clear hr2 hB
  gi_wp2_with (gi_at_call 66; refine stop ?_)
  unfold Stop
  refine (attempt_calls w2 v2 (p + q) HR2.out HR.out HS.out (HTab.out.below HK.out.below)).mono ?_
  rintro e w3 ⟨v3, rfl, hr3, hB⟩
  replace HK := Hid.intro (HK.out.step hB)
  obtain ⟨o5, k5, c5, o6, k6, c6, rfl⟩ := hr3.form
  have HR3 := Hid.intro hr3
  clear hr3 hB HR2
  obtain ⟨sg, hsg⟩ : ∃ sg, decide ((p + q).num < 0) = sg := ⟨_, rfl⟩
  rw [hsg] at HR3
  rw [hsg]
  obtain ⟨f, hf⟩ := HK.out.res
  have z0 := (hf 0 (by omega)).1
  have z1 := (hf 1 (by omega)).1
  have z2 := (hf 2 (by omega)).1
  have y0 := (hf 0 (by omega)).2
  have y1 := (hf 1 (by omega)).2
  have y2 := (hf 2 (by omega)).2
  have HE := Hid.intro HK.out.el
  have hle : w.heap.size ≤ g + 1 + 1 := by omega
  clear hf
  gi_wp2
  refine ret_rat_two rfl rfl (g + 1 + 1) rfl rfl z0 z1 z2 ?_
  refine ⟨_, rfl, ?_, ((HK.out.below.setCell hle _).setCell hle _).setCell hle _⟩
  exact ((HR3.out.setElem HE.out (by decide)).setElem (HE.out.setCell _ _) (by decide)).setElem ((HE.out.setCell _ _).setCell _ _) (by decide)

set_option maxRecDepth 100000 in
set_option maxHeartbeats 8000000 in
/-- **mulR.** -/
theorem mulR_calls (w : World) (va vb : Value) (p q : Rat) (L : Nat) (ha : RatAt w va p) (hb : RatAt w vb q) (hp : RatLe p L) (hq : RatLe q L) (hL : L ≤ 1000000) (hr : RatLe (p * q) 100000) (hs : Kept1 (p * q) = true) (htab : Pow10 w) :
    CallsIn Fence.wide 0 Tryz.prog 41 #[va, vb] w fun e w' => ∃ v', e = .returned (.tuple #[v', .int .i64 0]) ∧ RatAt w' v' (p * q) ∧ Below w.heap.size w w' := by
  have HA := Hid.intro ha
  have HB := Hid.intro hb
  have HP := Hid.intro hp
  have HQ := Hid.intro hq
  have HR := Hid.intro hr
  have HS := Hid.intro hs
  have HTab := Hid.intro htab
  obtain ⟨o1, k1, c1, o2, k2, c2, rfl⟩ := ha.form
  obtain ⟨o3, k3, c3, o4, k4, c4, rfl⟩ := hb.form
  obtain ⟨sa, hsa⟩ : ∃ sa, decide (p.num < 0) = sa := ⟨_, rfl⟩
  obtain ⟨sb, hsb⟩ : ∃ sb, decide (q.num < 0) = sb := ⟨_, rfl⟩
  rw [hsa] at HA
  rw [hsb] at HB
  rw [hsa, hsb]
  clear ha hb hp hq hr hs htab hsa hsb
  refine callsIn_of_wp Tryz.func41 rfl trivial ?_ rfl
  simp only [Tryz.ntmps41, List.size_toArray, List.length_cons, List.length_nil, Nat.reduceAdd, Nat.reduceSub, Array.replicate_succ, Array.replicate_zero, List.push_toArray, List.append_toArray, List.nil_append, List.cons_append]
  gi_wp2_with (gi_at_call 94; refine stop ?_)
  unfold Stop
  obtain ⟨W, hW⟩ : ∃ W, W = ((w.alloc (Obj.cells #[Value.bool sa, .slice o1 k1 c1, .slice o2 k2 c2] 25)).alloc (Obj.cells #[Value.bool sb, .slice o3 k3 c3, .slice o4 k4 c4] 25)).alloc (Obj.cells #[Value.bool false, Value.slice none 0 0, Value.slice none 0 0] 25) := ⟨_, rfl⟩
  rw [← hW]
  have HK : Hid (RatKept w W w.heap.size (.bool sa) (.slice o1 k1 c1) (.slice o2 k2 c2) (.bool sb) (.slice o3 k3 c3) (.slice o4 k4 c4)) := by
    rw [hW]; exact ratKept_new w _ _ _ _ _ _ _ _ _ _
  obtain ⟨g, hg⟩ : ∃ g, w.heap.size = g := ⟨_, rfl⟩
  rw [hg] at HK
  rw [hg]
  clear hW
  refine (times_calls W _ _ p q L (HA.out.below HK.out.below) (HB.out.below HK.out.below) HP.out HQ.out hL).mono ?_
  rintro e w2 ⟨v2, rfl, hr2, hB⟩
  replace HK := Hid.intro (HK.out.step hB)
  have HR2 := Hid.intro hr2
  clear hr2 hB
  gi_wp2_with (gi_at_call 66; refine stop ?_)
  unfold Stop
  refine (attempt_calls w2 v2 (p * q) HR2.out HR.out HS.out (HTab.out.below HK.out.below)).mono ?_
  rintro e w3 ⟨v3, rfl, hr3, hB⟩
  replace HK := Hid.intro (HK.out.step hB)
  obtain ⟨o5, k5, c5, o6, k6, c6, rfl⟩ := hr3.form
  have HR3 := Hid.intro hr3
  clear hr3 hB HR2
  obtain ⟨sg, hsg⟩ : ∃ sg, decide ((p * q).num < 0) = sg := ⟨_, rfl⟩
  rw [hsg] at HR3
  rw [hsg]
  obtain ⟨f, hf⟩ := HK.out.res
  have z0 := (hf 0 (by omega)).1
  have z1 := (hf 1 (by omega)).1
  have z2 := (hf 2 (by omega)).1
  have y0 := (hf 0 (by omega)).2
  have y1 := (hf 1 (by omega)).2
  have y2 := (hf 2 (by omega)).2
  have HE := Hid.intro HK.out.el
  have hle : w.heap.size ≤ g + 1 + 1 := by omega
  clear hf
  gi_wp2
  refine ret_rat_two rfl rfl (g + 1 + 1) rfl rfl z0 z1 z2 ?_
  refine ⟨_, rfl, ?_, ((HK.out.below.setCell hle _).setCell hle _).setCell hle _⟩
  exact ((HR3.out.setElem HE.out (by decide)).setElem (HE.out.setCell _ _) (by decide)).setElem ((HE.out.setCell _ _).setCell _ _) (by decide)
end Go.Num

namespace Go.Num
open Go.Eng Go.Shelf Go.RowKit Go.Proofs Go.Proofs.YtoamcgjbelhnkaaGreatDoor

theorem sgnR_ne {q : Rat} (h : q.num ≠ 0) : sgnR q ≠ 0 := by
  unfold sgnR
  split
  · decide
  · decide
theorem sgnR_zero {q : Rat} (h : q.num = 0) : sgnR q = 0 := by
  unfold sgnR
  rw [if_neg (by omega), if_pos h]

set_option maxRecDepth 100000 in
set_option maxHeartbeats 8000000 in
/-- **quoR.** -/
theorem quoR_calls (w : World) (va vb : Value) (p q : Rat) (L : Nat) (ha : RatAt w va p) (hb : RatAt w vb q) (hp : RatLe p L) (hq : RatLe q L) (hq0 : q.num ≠ 0) (hL : L ≤ 1000000) (hr : RatLe (p / q) 100000) (hs : Kept1 (p / q) = true) (htab : Pow10 w) :
    CallsIn Fence.wide 0 Tryz.prog 47 #[va, vb] w fun e w' => ∃ v', e = .returned (.tuple #[v', .int .i64 0]) ∧ RatAt w' v' (p / q) ∧ Below w.heap.size w w' := by
  have HA := Hid.intro ha
  have HB := Hid.intro hb
  have HP := Hid.intro hp
  have HQ := Hid.intro hq
  have HR := Hid.intro hr
  have HS := Hid.intro hs
  have HTab := Hid.intro htab
  obtain ⟨o1, k1, c1, o2, k2, c2, rfl⟩ := ha.form
  obtain ⟨o3, k3, c3, o4, k4, c4, rfl⟩ := hb.form
  obtain ⟨sa, hsa⟩ : ∃ sa, decide (p.num < 0) = sa := ⟨_, rfl⟩
  obtain ⟨sb, hsb⟩ : ∃ sb, decide (q.num < 0) = sb := ⟨_, rfl⟩
  rw [hsa] at HA
  rw [hsb] at HB
  rw [hsa, hsb]
  clear ha hb hp hq hr hs htab hsa hsb
  refine callsIn_of_wp Tryz.func47 rfl trivial ?_ rfl
  simp only [Tryz.ntmps47, List.size_toArray, List.length_cons, List.length_nil, Nat.reduceAdd, Nat.reduceSub, Array.replicate_succ, Array.replicate_zero, List.push_toArray, List.append_toArray, List.nil_append, List.cons_append]
  have hsg0 : (sgnR q == 0) = false := beq_false_of_ne (sgnR_ne hq0)
  gi_wp2_with (gi_at_call 17; refine stop ?_)
  unfold Stop
  obtain ⟨W, hW⟩ : ∃ W, W = ((w.alloc (Obj.cells #[Value.bool sa, .slice o1 k1 c1, .slice o2 k2 c2] 25)).alloc (Obj.cells #[Value.bool sb, .slice o3 k3 c3, .slice o4 k4 c4] 25)).alloc (Obj.cells #[Value.bool false, Value.slice none 0 0, Value.slice none 0 0] 25) := ⟨_, rfl⟩
  rw [← hW]
  have HK : Hid (RatKept w W w.heap.size (.bool sa) (.slice o1 k1 c1) (.slice o2 k2 c2) (.bool sb) (.slice o3 k3 c3) (.slice o4 k4 c4)) := by
    rw [hW]; exact ratKept_new w _ _ _ _ _ _ _ _ _ _
  obtain ⟨g, hg⟩ : ∃ g, w.heap.size = g := ⟨_, rfl⟩
  rw [hg] at HK
  rw [hg]
  clear hW
  refine (sign_calls W _ q (HB.out.below HK.out.below)).mono ?_
  rintro e W2 ⟨rfl, hB⟩
  replace HK := Hid.intro (HK.out.step hB)
  have y0 := HK.out.bx.c0
  have y1 := HK.out.bx.c1
  have y2 := HK.out.bx.c2
  have z0 := HK.out.by'.c0
  have z1 := HK.out.by'.c1
  have z2 := HK.out.by'.c2
  clear hB
  gi_wp2_with (gi_at_call 76; refine stop ?_)
  unfold Stop
  refine (over_calls W2 _ _ p q L (HA.out.below HK.out.below) (HB.out.below HK.out.below) HP.out HQ.out hq0 hL).mono ?_
  rintro e w2 ⟨v2, rfl, hr2, hB⟩
  replace HK := Hid.intro (HK.out.step hB)
  have HR2 := Hid.intro hr2
  clear hr2 hB y0 y1 y2 z0 z1 z2
  gi_wp2_with (gi_at_call 66; refine stop ?_)
  unfold Stop
  refine (attempt_calls w2 v2 (p / q) HR2.out HR.out HS.out (HTab.out.below HK.out.below)).mono ?_
  rintro e w3 ⟨v3, rfl, hr3, hB⟩
  replace HK := Hid.intro (HK.out.step hB)
  obtain ⟨o5, k5, c5, o6, k6, c6, rfl⟩ := hr3.form
  have HR3 := Hid.intro hr3
  clear hr3 hB HR2
  obtain ⟨sg, hsg⟩ : ∃ sg, decide ((p / q).num < 0) = sg := ⟨_, rfl⟩
  rw [hsg] at HR3
  rw [hsg]
  obtain ⟨f, hf⟩ := HK.out.res
  have z0 := (hf 0 (by omega)).1
  have z1 := (hf 1 (by omega)).1
  have z2 := (hf 2 (by omega)).1
  have y0 := (hf 0 (by omega)).2
  have y1 := (hf 1 (by omega)).2
  have y2 := (hf 2 (by omega)).2
  have HE := Hid.intro HK.out.el
  have hle : w.heap.size ≤ g + 1 + 1 := by omega
  clear hf
  gi_wp2
  refine ret_rat_two rfl rfl (g + 1 + 1) rfl rfl z0 z1 z2 ?_
  refine ⟨_, rfl, ?_, ((HK.out.below.setCell hle _).setCell hle _).setCell hle _⟩
  exact ((HR3.out.setElem HE.out (by decide)).setElem (HE.out.setCell _ _) (by decide)).setElem ((HE.out.setCell _ _).setCell _ _) (by decide)

set_option maxRecDepth 100000 in
set_option maxHeartbeats 8000000 in
/-- **'Quo'**, by 0. -/
theorem quoR_zero (w : World) (va vb : Value) (p q : Rat) (ha : RatAt w va p) (hb : RatAt w vb q) (hq0 : q.num = 0) :
    CallsIn Fence.wide 0 Tryz.prog 47 #[va, vb] w fun e w' => ∃ v', e = .returned (.tuple #[v', .int .i64 6]) ∧ RatAt w' v' 0 ∧ Below w.heap.size w w' := by
  have HB := Hid.intro hb
  obtain ⟨o1, k1, c1, o2, k2, c2, rfl⟩ := ha.form
  obtain ⟨o3, k3, c3, o4, k4, c4, rfl⟩ := hb.form
  obtain ⟨sa, hsa⟩ : ∃ sa, decide (p.num < 0) = sa := ⟨_, rfl⟩
  obtain ⟨sb, hsb⟩ : ∃ sb, decide (q.num < 0) = sb := ⟨_, rfl⟩
  rw [hsb] at HB
  rw [hsa, hsb]
  have HZ := Hid.intro (sgnR_zero hq0)
  clear ha hb hsa hsb hq0
  refine callsIn_of_wp Tryz.func47 rfl trivial ?_ rfl
  simp only [Tryz.ntmps47, List.size_toArray, List.length_cons, List.length_nil, Nat.reduceAdd, Nat.reduceSub, Array.replicate_succ, Array.replicate_zero, List.push_toArray, List.append_toArray, List.nil_append, List.cons_append]
  gi_wp2_with (gi_at_call 17; refine stop ?_)
  unfold Stop
  obtain ⟨W, hW⟩ : ∃ W, W = ((w.alloc (Obj.cells #[Value.bool sa, .slice o1 k1 c1, .slice o2 k2 c2] 25)).alloc (Obj.cells #[Value.bool sb, .slice o3 k3 c3, .slice o4 k4 c4] 25)).alloc (Obj.cells #[Value.bool false, Value.slice none 0 0, Value.slice none 0 0] 25) := ⟨_, rfl⟩
  rw [← hW]
  have HK : Hid (RatKept w W w.heap.size (.bool sa) (.slice o1 k1 c1) (.slice o2 k2 c2) (.bool sb) (.slice o3 k3 c3) (.slice o4 k4 c4)) := by
    rw [hW]; exact ratKept_new w _ _ _ _ _ _ _ _ _ _
  obtain ⟨g, hg⟩ : ∃ g, w.heap.size = g := ⟨_, rfl⟩
  rw [hg] at HK
  rw [hg]
  clear hW
  refine (sign_calls W _ q (HB.out.below HK.out.below)).mono ?_
  rintro e W2 ⟨rfl, hB⟩
  replace HK := Hid.intro (HK.out.step hB)
  rw [HZ.out]
  obtain ⟨f, hf⟩ := HK.out.res
  have z0 := (hf 0 (by omega)).1
  have z1 := (hf 1 (by omega)).1
  have z2 := (hf 2 (by omega)).1
  have y0 := (hf 0 (by omega)).2
  have y1 := (hf 1 (by omega)).2
  have y2 := (hf 2 (by omega)).2
  have hle : w.heap.size ≤ g + 1 + 1 := by omega
  clear hf hB
  gi_wp2
  refine ret_rat_two rfl rfl (g + 1 + 1) rfl rfl z0 z1 z2 ?_
  exact ⟨_, rfl, ratAt_zero _, ((HK.out.below.setCell hle _).setCell hle _).setCell hle _⟩
end Go.Num

namespace Go.Num
open Go.Eng Go.Shelf Go.RowKit Go.Proofs Go.Proofs.YtoamcgjbelhnkaaGreatDoor

set_option maxRecDepth 100000 in
set_option maxHeartbeats 8000000 in
/-- **'Cmp' of fractions.** -/
theorem cmpR_calls (w : World) (va vb : Value) (p q : Rat) (L : Nat) (ha : RatAt w va p) (hb : RatAt w vb q) (hp : RatLe p L) (hq : RatLe q L) (hL : L ≤ 1000000) :
    CallsIn Fence.wide 0 Tryz.prog 44 #[va, vb] w fun e w' => e = .returned (.int .i64 (sgnR (p - q))) ∧ Below w.heap.size w w' := by
  have HA := Hid.intro ha
  have HB := Hid.intro hb
  have HP := Hid.intro hp
  have HQ := Hid.intro hq
  obtain ⟨o1, k1, c1, o2, k2, c2, rfl⟩ := ha.form
  obtain ⟨o3, k3, c3, o4, k4, c4, rfl⟩ := hb.form
  obtain ⟨sa, hsa⟩ : ∃ sa, decide (p.num < 0) = sa := ⟨_, rfl⟩
  obtain ⟨sb, hsb⟩ : ∃ sb, decide (q.num < 0) = sb := ⟨_, rfl⟩
  rw [hsa] at HA
  rw [hsb] at HB
  rw [hsa, hsb]
  clear ha hb hp hq hsa hsb
  obtain ⟨W0, hW0⟩ : ∃ W, W = w.alloc (.cells #[.bool sa, .slice o1 k1 c1, .slice o2 k2 c2] 25) := ⟨_, rfl⟩
  have h0s : W0.heap.size = w.heap.size + 1 := by rw [hW0]; simp
  obtain ⟨W1, hW1⟩ : ∃ W, W = W0.alloc (.cells #[.bool sb, .slice o3 k3 c3, .slice o4 k4 c4] 25) := ⟨_, rfl⟩
  have HX : Hid (Box3 W1 w.heap.size (.bool sa) (.slice o1 k1 c1) (.slice o2 k2 c2)) := Hid.intro (by rw [hW1]; exact Box3.below (by rw [hW0]; exact box3_new _ _ _ _ _) (alloc_below _ _))
  have HY : Hid (Box3 W1 (w.heap.size + 1) (.bool sb) (.slice o3 k3 c3) (.slice o4 k4 c4)) := Hid.intro (by rw [hW1, ← h0s]; exact box3_new _ _ _ _ _)
  have HBW : Hid (Below w.heap.size w W1) := Hid.intro (by rw [hW1, hW0]; exact (alloc_below _ _).alloc (by simp) _)
  refine callsIn_of_wp Tryz.func44 rfl trivial ?_ rfl
  simp only [Tryz.ntmps44, List.size_toArray, List.length_cons, List.length_nil, Nat.reduceAdd, Nat.reduceSub, Array.replicate_succ, Array.replicate_zero, List.push_toArray, List.append_toArray, List.nil_append, List.cons_append]
  gi_wp2
  rw [← hW0, ← hW1]
  obtain ⟨g, hg⟩ : ∃ g, w.heap.size = g := ⟨_, rfl⟩
  rw [hg] at HX HY
  rw [hg]
  clear hW0 hW1 h0s
  refine wpIn_region_ow (ro := none) [2, 3, 4] [0, 1, 2, 3, 4, 5] [0, 0, 2, 7, 15, 31] follows 10 rfl (by kernel_rfl) (by kernel_rfl) ?_
  replace HX := Hid.intro (HX.out.below (drew_below _))
  replace HY := Hid.intro (HY.out.below (drew_below _))
  replace HBW := Hid.intro (HBW.out.trans ((drew_below W1).mono HBW.out.size))
  refine OW.loadAll rfl rfl l25 (cs := [.bool sa, .slice o1 k1 c1, .slice o2 k2 c2]) rfl (by decide) HX.out rfl ?_
  simp only [Go.Act.put, List.setIfInBounds_toArray, List.set_cons_succ, List.set_cons_zero]
  refine OW.loadAll rfl rfl l25 (cs := [.bool sb, .slice o3 k3 c3, .slice o4 k4 c4]) rfl (by decide) HY.out rfl ?_
  simp only [Go.Act.put, List.setIfInBounds_toArray, List.set_cons_succ, List.set_cons_zero]
  refine OW.call rfl rfl Tryz.func46 rfl namesOK (args := [.agg #[.bool sb, .slice o3 k3 c3, .slice o4 k4 c4]]) rfl ?_
  refine (neg_calls W1.drew _ q (HB.out.below HBW.out)).mono ?_
  rintro e w2 ⟨v2, rfl, hr2, hB⟩
  refine ⟨v2, rfl, hB, ?_⟩
  simp only [Go.Act.put, List.setIfInBounds_toArray, List.set_cons_succ, List.set_cons_zero]
  replace HBW := Hid.intro (HBW.out.trans (hB.mono HBW.out.size))
  have HR2 := Hid.intro hr2
  clear hr2 hB
  refine OW.call rfl rfl Tryz.func93 rfl namesOK (args := [.agg #[.bool sa, .slice o1 k1 c1, .slice o2 k2 c2], v2]) rfl ?_
  refine (plus_calls w2 _ v2 p (-q) L (HA.out.below HBW.out) HR2.out HP.out (ratLe_neg HQ.out) hL).mono ?_
  rintro e w3 ⟨v3, rfl, hr3, hB⟩
  refine ⟨v3, rfl, hB, ?_⟩
  simp only [Go.Act.put, List.setIfInBounds_toArray, List.set_cons_succ, List.set_cons_zero]
  replace HBW := Hid.intro (HBW.out.trans (hB.mono HBW.out.size))
  have HR3 := Hid.intro hr3
  clear hr3 hB
  refine OW.call rfl rfl Tryz.func17 rfl namesOK (args := [v3]) rfl ?_
  refine (sign_calls w3 v3 _ HR3.out).mono ?_
  rintro e w4 ⟨rfl, hB⟩
  refine ⟨_, rfl, hB, ?_⟩
  simp only [Go.Act.put, List.setIfInBounds_toArray, List.set_cons_succ, List.set_cons_zero]
  replace HBW := Hid.intro (HBW.out.trans (hB.mono HBW.out.size))
  clear hB
  refine OW.assign rfl rfl _ rfl ?_
  simp only [Go.Act.put, List.setIfInBounds_toArray, List.set_cons_succ, List.set_cons_zero]
  refine OW.done ?_
  rw [← Rat.sub_eq_add_neg]
  gi_wp2
  all_goals (first | go_returns | go_ret | go_end0)
  exact ⟨rfl, HBW.out⟩
end Go.Num

namespace Go.Num
open Go.Eng Go.Shelf Go.RowKit Go.Proofs Go.Proofs.YtoamcgjbelhnkaaGreatDoor

/-- The panic by which a number leaves. -/
def tooL : List PanicEntry := [{ v := .iface 152 (.agg #[]), recovered := false }]

set_option maxRecDepth 100000 in
set_option maxHeartbeats 8000000 in
/-- **'kept'**, of a fraction that is too long. -/
theorem kept_panics (w : World) (v : Value) (q : Rat) (h : RatAt w v q) (hq : RatLe q 100000) (hs : Kept1 q = false) (htab : Pow10 w) :
    CallsIn Fence.wide 0 Tryz.prog 67 #[v] w fun e w' => e = .panicked tooL ∧ Below w.heap.size w w' := by
  obtain ⟨vn, vd, rfl, hn, hd⟩ := h
  have HN := Hid.intro hn
  have HD := Hid.intro hd
  obtain ⟨sg, hsg⟩ : ∃ sg, decide (q.num < 0) = sg := ⟨_, rfl⟩
  obtain ⟨o1, k1, c1, rfl, _, _⟩ := mag_len hn
  obtain ⟨o2, k2, c2, rfl, _, _⟩ := mag_len hd
  rw [hsg]
  obtain ⟨W0, hW0⟩ : ∃ W, W = w.alloc (.cells #[.bool sg, .slice o1 k1 c1, .slice o2 k2 c2] 25) := ⟨_, rfl⟩
  have h0s : W0.heap.size = w.heap.size + 1 := by rw [hW0]; simp
  obtain ⟨W1, hW1⟩ : ∃ W, W = W0.alloc (.cells #[.bool false, .slice none 0 0, .slice none 0 0] 25) := ⟨_, rfl⟩
  have HX : Hid (Box3 W1 w.heap.size (.bool sg) (.slice o1 k1 c1) (.slice o2 k2 c2)) := Hid.intro (by rw [hW1]; exact Box3.below (by rw [hW0]; exact box3_new _ _ _ _ _) (alloc_below _ _))
  have HB0 : Hid (Below w.heap.size w W0) := Hid.intro (by rw [hW0]; exact alloc_below _ _)
  have HBW : Hid (Below w.heap.size w W1) := Hid.intro (HB0.out.trans ((by rw [hW1]; exact alloc_below _ _ : Below W0.heap.size W0 W1).mono HB0.out.size))
  have HP := Hid.intro hq
  have HTab := Hid.intro htab
  have HS := Hid.intro hs
  have y0 := HX.out.c0
  have y1 := HX.out.c1
  have y2 := HX.out.c2
  clear hn hd hsg hq htab hs
  refine callsIn_of_wp Tryz.func67 rfl trivial ?_ rfl
  simp only [Tryz.ntmps67, List.size_toArray, List.length_cons, List.length_nil, Nat.reduceAdd, Nat.reduceSub, Array.replicate_succ, Array.replicate_zero, List.push_toArray, List.append_toArray, List.nil_append, List.cons_append]
  gi_wp2_with (gi_at_call 110; refine stop ?_)
  unfold Stop
  rw [← hW0, ← hW1]
  obtain ⟨g, hg⟩ : ∃ g, w.heap.size = g := ⟨_, rfl⟩
  rw [hg] at HX h0s y0 y1 y2
  rw [hg]
  clear hW0 hW1 HB0 h0s hg
  refine (isSmall_calls W1 _ _ (HN.out.below HBW.out) HP.out.1 (HTab.out.below HBW.out)).mono ?_
  rintro e w2 ⟨rfl, hB⟩
  replace HX := Hid.intro (HX.out.below hB)
  replace HBW := Hid.intro (HBW.out.trans (hB.mono HBW.out.size))
  replace y0 := HX.out.c0
  replace y1 := HX.out.c1
  replace y2 := HX.out.c2
  clear hB
  cases hs1 : SmallN q.num.natAbs with
  | false =>
    clear hs1
    gi_wp2
    exact ⟨rfl, rfl, HBW.out⟩
  | true =>
    have HS2 : Hid (SmallN (if q.den = 1 then 0 else q.den) = false) := Hid.intro (by have := HS.out; unfold Kept1 at this; rw [hs1, Bool.true_and] at this; exact this)
    clear hs1
    gi_wp2_with (gi_at_call 110; refine stop ?_)
    unfold Stop
    refine (isSmall_calls w2 _ _ (HD.out.below HBW.out) (by split; exact pow_pos' 100000; exact HP.out.2) (HTab.out.below HBW.out)).mono ?_
    rintro e w3 ⟨rfl, hB⟩
    replace HBW := Hid.intro (HBW.out.trans (hB.mono HBW.out.size))
    rw [HS2.out]
    replace HX := Hid.intro (HX.out.below hB)
    replace y0 := HX.out.c0
    replace y1 := HX.out.c1
    replace y2 := HX.out.c2
    clear hB
    gi_wp2
    exact ⟨rfl, rfl, HBW.out⟩

/-- What the closure that recovers leaves behind. -/
def caught (w : World) (g : Nat) : World :=
  (((((w.alloc (.cells #[] 152)).alloc (.cells #[.bool false, .slice none 0 0, .slice none 0 0] 25)).setCell ⟨g, 0, none⟩ (.bool false)).setCell ⟨g, 1, none⟩ (.slice none 0 0)).setCell ⟨g, 2, none⟩ (.slice none 0 0)).setCell ⟨g + 1, 0, none⟩ (.int .i64 11)

set_option maxRecDepth 100000 in
set_option maxHeartbeats 8000000 in
theorem catch_109 (g : Nat) (w : World) (f f2 : Nat → Value) (hg : g + 1 < w.heap.size) (hA : ArrAt w g 3 f) (hA2 : ArrAt w (g + 1) 1 f2) :
    CallsDIn Fence.wide 0 Tryz.prog 109 #[.pointer (some ⟨g, 0, none⟩), .pointer (some ⟨g + 1, 0, none⟩)] (.panicking tooL) w fun e u' w' =>
      e = .returned (.tuple #[]) ∧ u' = .panicking [{ v := .iface 152 (.agg #[]), recovered := true }] ∧ w' = caught w g := by
  have hB := (hA.alloc (by omega) (Obj.cells #[] 152)).alloc (by simp; omega) (Obj.cells #[.bool false, .slice none 0 0, .slice none 0 0] 25)
  have hB2 := (hA2.alloc (by omega) (Obj.cells #[] 152)).alloc (by simp; omega) (Obj.cells #[.bool false, .slice none 0 0, .slice none 0 0] 25)
  have z0 := (hB 0 (by omega)).1
  have z1 := (hB 1 (by omega)).1
  have z2 := (hB 2 (by omega)).1
  have y0 := (hB 0 (by omega)).2
  have y1 := (hB 1 (by omega)).2
  have y2 := (hB 2 (by omega)).2
  have x0 := (hB2 0 (by omega)).1
  have x1 := (hB2 0 (by omega)).2
  clear hB hB2
  refine callsDIn_of_wpSIn Tryz.func109 rfl trivial fun c₀ cs hu => ?_
  simp only [show Tryz.f109.ntmps = 18 from rfl, List.size_toArray, List.length_cons, List.length_nil, Nat.reduceAdd, Nat.reduceSub, Array.replicate_succ, Array.replicate_zero, List.push_toArray, List.append_toArray, List.nil_append, List.cons_append]
  unfold tooL at hu
  apply wpSIn_seq
  apply wpSIn_region
  simp [wpOpsSIn, go_sem, recoverD, hu, Exit.thenS]
  apply wpSIn_seq
  apply wpSIn_region
  simp [wpOpsSIn, go_sem, Exit.thenS]
  refine wpSIn_cond (t := true) (by simp [Act.eval]) ?_
  simp only [if_true]
  refine wpSIn_of_wpIn rfl ?_
  clear hA hA2
  have hta : ∀ w : World, (Instr.typeAssert (.iface 152 (.agg #[])) 20 152 true).run Tryz.prog w = .ok (.tuple #[.agg #[], .bool true]) w := fun w => by kernel_rfl
  gi_wp2
  exact ⟨rfl, _, rfl, .tuple #[], by simp [results], rfl, rfl, rfl⟩

set_option maxRecDepth 100000 in
set_option maxHeartbeats 8000000 in
/-- **'attempt'**, of a fraction that is too long. -/
theorem attempt_panics (w : World) (v : Value) (q : Rat) (h : RatAt w v q) (hq : RatLe q 100000) (hs : Kept1 q = false) (htab : Pow10 w) :
    CallsIn Fence.wide 0 Tryz.prog 66 #[.func (.func 67) #[v] #[]] w fun e w' => ∃ v', e = .returned (.tuple #[v', .int .i64 11]) ∧ RatAt w' v' 0 ∧ Below w.heap.size w w' := by
  have hmf : ∀ (fn : Fn) (first cap : Array Value) (w : World), (Instr.makeFunc fn first cap).run Tryz.prog w = .ok (.func fn first cap) w := fun _ _ _ _ => rfl
  have HR := Hid.intro h
  have HP := Hid.intro hq
  have HS := Hid.intro hs
  have HTab := Hid.intro htab
  obtain ⟨o, k, c, o2, k2, c2, rfl⟩ := h.form
  clear h hq hs htab
  gi_enter_defers Tryz.func66, Tryz.ntmps66
  gi_wp2_with (gi_at_call 67; refine stop ?_)
  unfold Stop
  obtain ⟨W0, hW0⟩ : ∃ W, W = w.alloc (.cells #[.bool false, .slice none 0 0, .slice none 0 0] 25) := ⟨_, rfl⟩
  have h0s : W0.heap.size = w.heap.size + 1 := by rw [hW0]; simp
  obtain ⟨W1, hW1⟩ : ∃ W, W = W0.alloc (.cells #[.int .i64 0] 26) := ⟨_, rfl⟩
  rw [← hW0, ← hW1]
  have HA : Hid (∃ f, ArrAt W1 w.heap.size 3 f) := Hid.intro ⟨fun i => [.bool false, .slice none 0 0, .slice none 0 0].getD i (.bool false), by
    rw [hW1]
    refine ArrAt.alloc ?_ (by omega) _
    rw [hW0]
    exact ArrAt.new _ _ _ fun i hi => by
      have : i = 0 ∨ i = 1 ∨ i = 2 := by omega
      rcases this with rfl | rfl | rfl <;> rfl⟩
  have HA2 : Hid (∃ f, ArrAt W1 (w.heap.size + 1) 1 f) := Hid.intro ⟨fun i => .int .i64 0, by
    rw [hW1, ← h0s]
    exact ArrAt.new _ _ _ fun i hi => by
      have : i = 0 := by omega
      rw [this]; rfl⟩
  have HBW : Hid (Below w.heap.size w W1) := Hid.intro (by rw [hW1, hW0]; exact (alloc_below _ _).alloc (by simp) _)
  have hl : w.heap.size + 1 < W1.heap.size := by rw [hW1]; simp; omega
  obtain ⟨g, hg⟩ : ∃ g, w.heap.size = g := ⟨_, rfl⟩
  rw [hg] at HA HA2 hl
  rw [hg]
  have hgw : w.heap.size ≤ g := by omega
  clear hW0 hW1 h0s hg
  refine (kept_panics W1 _ q (HR.out.below HBW.out) HP.out HS.out (HTab.out.below HBW.out)).mono ?_
  rintro e w2 ⟨rfl, hB⟩
  replace HBW := Hid.intro (HBW.out.trans (hB.mono HBW.out.size))
  obtain ⟨f, hf⟩ := HA.out
  obtain ⟨f2, hf2⟩ := HA2.out
  have ha := hf.below (by omega) hB
  have ha2 := hf2.below (by omega) hB
  have hl2 : g + 1 < w2.heap.size := Nat.lt_of_lt_of_le hl hB.size
  clear HA HA2 hf hf2 hB
  gi_wp2
  refine leavesIn_cons (f := 109) (args := #[.pointer (some ⟨g, 0, none⟩), .pointer (some ⟨g + 1, 0, none⟩)]) (by simp) (by simp) (by simp [go_sem]) (by simp [Target.leads]) ?_
  refine (catch_109 g w2 f f2 hl2 ha ha2).mono ?_
  rintro e u' w'' ⟨rfl, rfl, rfl⟩
  show LeavesIn _ _ _ _ _ _ _ FrameMode.returning (caught w2 g)
  have n3 : ∀ j : Nat, (⟨g, j, none⟩ : Addr) ≠ ⟨g + 1, 0, none⟩ := fun j e => by injection e with e _ _; omega
  have n4 : ∀ j : Nat, (⟨g + 1, 0, none⟩ : Addr) ≠ ⟨g, j, none⟩ := fun j e => by injection e with e _ _; omega
  have hW := (ha.alloc (by omega) (Obj.cells #[] 152)).alloc (by simp; omega) (Obj.cells #[.bool false, .slice none 0 0, .slice none 0 0] 25)
  have hW2 := (ha2.alloc (by omega) (Obj.cells #[] 152)).alloc (by simp; omega) (Obj.cells #[.bool false, .slice none 0 0, .slice none 0 0] 25)
  have h3 := ((hW.set (i := 0) (by omega) (.bool false)).set (i := 1) (by omega) (.slice none 0 0)).set (i := 2) (by omega) (.slice none 0 0)
  have hsz := HBW.out.size
  have hB3 : Below w.heap.size w (caught w2 g) := by
    unfold caught
    exact (((((HBW.out.alloc hsz _).alloc (by simp; omega) _).setCell hgw _).setCell hgw _).setCell hgw _).setCell (by show w.heap.size ≤ g + 1; omega) _
  have b3 : Box3 (caught w2 g) g (.bool false) (.slice none 0 0) (.slice none 0 0) := fun j v hj => by
    unfold caught
    rw [World.cell?_setCell_other _ _ _ _ (n4 j)]
    match j, hj with
    | 0, hj => rw [← hj]; exact (h3 0 (by omega)).1
    | 1, hj => rw [← hj]; exact (h3 1 (by omega)).1
    | 2, hj => rw [← hj]; exact (h3 2 (by omega)).1
    | n + 3, hj => simp at hj
  have c3 : (caught w2 g).cell? ⟨g + 1, 0, none⟩ = some (.int .i64 11) := by
    unfold caught
    exact World.cell?_setCell_same _ _ _ (by rw [World.cell?_setCell_other _ _ _ _ (n3 2), World.cell?_setCell_other _ _ _ _ (n3 1), World.cell?_setCell_other _ _ _ _ (n3 0)]; exact (hW2 0 (by omega)).1)
  obtain ⟨W, hWW⟩ : ∃ W, caught w2 g = W := ⟨_, rfl⟩
  rw [hWW] at b3 c3 hB3 ⊢
  refine ⟨.tuple #[.agg #[.bool false, .slice none 0 0, .slice none 0 0], .int .i64 11], ?_, _, rfl, ratAt_zero _, hB3⟩
  have e1 := l25 g [.bool false, .slice none 0 0, .slice none 0 0] W rfl b3
  have e2 := l26 ⟨g + 1, 0, none⟩ _ W c3
  simp only [Instr.loadAt, Instr.sureAddr, Sem.run_bind, Sem.run_pure, Result.andThen_ok] at e1 e2
  simp [results, asAddr, e1, e2]
end Go.Num

namespace Go.Num
open Go.Eng Go.Shelf Go.RowKit Go.Proofs Go.Proofs.YtoamcgjbelhnkaaGreatDoor

/-! ### Leaves -/
abbrev rs3 : List TypeId := [3, 111]
theorem RatAt.kept {w w' : World} {v : Value} {q : Rat} (h : RatAt w v q) (hk : Go.Eng.Kept rs3 w w') : RatAt w' v q := by
  obtain ⟨vn, vd, e, h1, h2⟩ := h
  exact ⟨vn, vd, e, h1.kept hk rfl, h2.kept hk rfl⟩
theorem QAt.kept {w w' : World} {v : Value} {q : Rat} (h : QAt w v q) (hk : Go.Eng.Kept rs3 w w') : QAt w' v q := by
  obtain ⟨m1, m2, e, h1, h2⟩ := h
  exact ⟨m1, m2, e, h1.kept hk rfl, h2.kept hk rfl⟩
def leafR (q : Rat) : Leaf rs3 where
  sh := .agg 3
  I := fun v w => RatAt w v q
  stable := fun _ _ _ hk h => h.kept hk
  ok := by
    rintro v w ⟨vn, vd, rfl, h1, h2⟩
    refine ⟨_, rfl, rfl, fun x hx => ?_⟩
    simp only [List.mem_cons, List.not_mem_nil, or_false] at hx
    rcases hx with rfl | rfl | rfl
    · rfl
    · exact h1.oneCell
    · exact h2.oneCell
  det := fun h => by cases h
def leafQ (q : Rat) : Leaf rs3 where
  sh := .agg 4
  I := fun v w => QAt w v q
  stable := fun _ _ _ hk h => h.kept hk
  ok := by
    rintro v w ⟨vn, vd, rfl, h1, h2⟩
    refine ⟨_, rfl, rfl, fun x hx => ?_⟩
    simp only [List.mem_cons, List.not_mem_nil, or_false] at hx
    rcases hx with rfl | rfl | rfl | rfl
    · rfl
    · exact h1.oneCell
    · rfl
    · exact h2.oneCell
  det := fun h => by cases h
def leafI (n : Int) : Leaf rs3 where
  sh := .one
  I := fun v _ => v = .int .i64 n
  stable := fun _ _ _ _ h => h
  ok := by rintro v w rfl; rfl
  det := fun h => by cases h
def leafS (s : ByteArray) : Leaf rs3 where
  sh := .str
  I := fun v _ => v = .string s
  stable := fun _ _ _ _ h => h
  ok := by rintro v w rfl; exact ⟨_, rfl⟩
  det := by rintro _ v v' w rfl rfl; rfl
/-- Pieces. -/
abbrev tg (k : Nat) : AT := .tag (.leaf k)
abbrev vi (n : Int) : AT := .val (.sc (.int .i64 n))
abbrev vb (b : Bool) : AT := .val (.sc (.bool b))
abbrev A1 (a : AT) : AT := .cons a .nil
abbrev A2 (a b : AT) : AT := .cons a (.cons b .nil)
abbrev A3 (a b c : AT) : AT := .cons a (.cons b (.cons c .nil))
abbrev shR : Sh := .agg 3
abbrev shQ : Sh := .agg 4

/-! ### What is kept -/
def keptQ (q : Rat) : Rat := if Kept1 q = true then q else 0
def keptE (q : Rat) : Int := if Kept1 q = true then 0 else 11
theorem attempt_any (w : World) (v : Value) (q : Rat) (h : RatAt w v q) (hq : RatLe q 100000) (htab : Pow10 w) :
    CallsIn Fence.wide 0 Tryz.prog 66 #[.func (.func 67) #[v] #[]] w fun e w' => ∃ v', e = .returned (.tuple #[v', .int .i64 (keptE q)]) ∧ RatAt w' v' (keptQ q) ∧ Below w.heap.size w w' := by
  unfold keptE keptQ
  cases hs : Kept1 q with
  | true => exact attempt_calls w v q h hq hs htab
  | false => exact attempt_panics w v q h hq hs htab

section
variable {w0 : World} {env : List (Leaf rs3)} {r : List Entry}
abbrev TI (w0 : World) (env : List (Leaf rs3)) (L : List Entry) : Prop := ToldIn Tryz.prog w0.heap.size w0 (Gs env) (lookT L)
theorem pk2 {G : Sett} {w : World} {a b : AT} {x y : Value} (h1 : PieceOK G a x w) (h2 : PieceOK G b y w) : PackOK G (A2 a b) (.tuple #[x, y]) w := ⟨_, rfl, _, _, rfl, h1, _, _, rfl, h2, rfl⟩
theorem pk3 {G : Sett} {w : World} {a b c : AT} {x y z : Value} (h1 : PieceOK G a x w) (h2 : PieceOK G b y w) (h3 : PieceOK G c z w) : PackOK G (A3 a b c) (.tuple #[x, y, z]) w := ⟨_, rfl, _, _, rfl, h1, _, _, rfl, h2, _, _, rfl, h3, rfl⟩
theorem ps1 {G : Sett} {w : World} {a : AT} {x : Value} (h1 : PieceOK G a x w) : PiecesOK G (A1 a) [x] w := ⟨_, _, rfl, h1, rfl⟩
theorem ps2 {G : Sett} {w : World} {a b : AT} {x y : Value} (h1 : PieceOK G a x w) (h2 : PieceOK G b y w) : PiecesOK G (A2 a b) [x, y] w := ⟨_, _, rfl, h1, _, _, rfl, h2, rfl⟩
theorem ps3 {G : Sett} {w : World} {a b c : AT} {x y z : Value} (h1 : PieceOK G a x w) (h2 : PieceOK G b y w) (h3 : PieceOK G c z w) : PiecesOK G (A3 a b c) [x, y, z] w := ⟨_, _, rfl, h1, _, _, rfl, h2, _, _, rfl, h3, rfl⟩
theorem un2 {G : Sett} {w : World} {a b : AT} {v : Value} (h : PackOK G (A2 a b) v w) : ∃ x y, v = .tuple #[x, y] ∧ PieceOK G a x w ∧ PieceOK G b y w := by
  obtain ⟨xs, rfl, x, r, e, h1, y, r2, rfl, h2, h3⟩ := h
  have h3 : r2 = [] := h3
  subst h3
  have : xs = #[x, y] := Array.toList_inj.1 (by simpa using e)
  subst this
  exact ⟨x, y, rfl, h1, h2⟩
theorem un3 {G : Sett} {w : World} {a b c : AT} {v : Value} (h : PackOK G (A3 a b c) v w) : ∃ x y z, v = .tuple #[x, y, z] ∧ PieceOK G a x w ∧ PieceOK G b y w ∧ PieceOK G c z w := by
  obtain ⟨xs, rfl, x, r, e, h1, y, r2, rfl, h2, z, r3, rfl, h3, h4⟩ := h
  have h4 : r3 = [] := h4
  subst h4
  have : xs = #[x, y, z] := Array.toList_inj.1 (by simpa using e)
  subst this
  exact ⟨x, y, z, rfl, h1, h2, h3⟩
/-- The entry of 'attempt' of 'kept'. -/
theorem told_attempt {i j k : Nat} {q : Rat} (hi : env[i]? = some (leafR q)) (hj : env[j]? = some (leafR (keptQ q))) (hk : env[k]? = some (leafI (keptE q))) (hq : RatLe q 100000) (htab : Pow10 w0) (K : TI w0 env r) :
    TI w0 env ((66, A1 (.fn 67 (A1 (tg i)) .nil), A2 (tg j) (tg k)) :: r) := by
  refine told_e1 ⟨_, Tryz.func66, rfl⟩ (fun w v hw hv => ?_) K
  obtain ⟨xs, ys, rfl, ⟨x, r1, e, h1, h2⟩, h3⟩ := hv
  have h2 : r1 = [] := h2
  subst h2
  have e1 : xs = #[x] := Array.toList_inj.1 (by simpa using e)
  have h3 : ys.toList = [] := h3
  have e2 : ys = #[] := Array.toList_inj.1 h3
  subst e1; subst e2
  have h1 : Leaf.at env (.leaf i) x w := h1
  unfold Leaf.at at h1
  simp only [hi] at h1
  refine (attempt_any w x q h1 hq (htab.below hw)).mono ?_
  rintro e w' ⟨v', rfl, hr, hB⟩
  refine ⟨_, rfl, pk2 ?_ ?_, hB⟩
  · show Leaf.at env (.leaf j) v' w'
    unfold Leaf.at
    simp only [hj]
    exact hr
  · show Leaf.at env (.leaf k) _ w'
    unfold Leaf.at
    simp only [hk]
    rfl
end

theorem addS_calls (w : World) (va vb : Value) (p q : Rat) (L : Nat) (ha : RatAt w va p) (hb : RatAt w vb q) (hp : RatLe p L) (hq : RatLe q L) (hL : L ≤ 1000000) (hr : RatLe (p + q) 100000) (htab : Pow10 w) :
    CallsIn Fence.wide 0 Tryz.prog 39 #[va, vb] w fun e w' => ∃ v', e = .returned (.tuple #[v', .int .i64 (keptE (p + q))]) ∧ RatAt w' v' (keptQ (p + q)) ∧ Below w.heap.size w w' := by
  have hT : TI w [leafR p, leafR q, leafR (p + q), leafR (keptQ (p + q)), leafI (keptE (p + q))] [(93, A2 (tg 0) (tg 1), A1 (tg 2)), (66, A1 (.fn 67 (A1 (tg 2)) .nil), A2 (tg 3) (tg 4))] := by
    refine told_e2 ⟨_, Tryz.func93, rfl⟩ (fun w1 v u hw hv hu => ?_) <| told_attempt rfl rfl rfl hr htab told_nil
    refine (plus_calls w1 v u p q L hv hu hp hq hL).mono ?_
    rintro e w' ⟨v', rfl, h1, h2⟩
    exact ⟨_, rfl, h1, h2⟩
  refine (run_script follows namesOK (S := [shR, shR, shR, shR, .one]) rfl hT (n := 50) (ts := A2 (tg 0) (tg 1)) (rs := A2 (tg 3) (tg 4)) (by kernel_rfl) (xs := #[va, vb]) (ps2 ha hb)).mono ?_
  rintro e w' ⟨x, rfl, hx, hB⟩
  obtain ⟨a, b, rfl, h1, h2⟩ := un2 hx
  have h2 : b = .int .i64 (keptE (p + q)) := h2
  subst h2
  exact ⟨a, rfl, h1, hB⟩
theorem subS_calls (w : World) (va vb : Value) (p q : Rat) (L : Nat) (ha : RatAt w va p) (hb : RatAt w vb q) (hp : RatLe p L) (hq : RatLe q L) (hL : L ≤ 1000000) (hr : RatLe (p - q) 100000) (htab : Pow10 w) :
    CallsIn Fence.wide 0 Tryz.prog 40 #[va, vb] w fun e w' => ∃ v', e = .returned (.tuple #[v', .int .i64 (keptE (p - q))]) ∧ RatAt w' v' (keptQ (p - q)) ∧ Below w.heap.size w w' := by
  have hT : TI w [leafR p, leafR q, leafR (p - q), leafR (keptQ (p - q)), leafI (keptE (p - q)), leafR (-q)] [(46, A1 (tg 1), A1 (tg 5)), (93, A2 (tg 0) (tg 5), A1 (tg 2)), (66, A1 (.fn 67 (A1 (tg 2)) .nil), A2 (tg 3) (tg 4))] := by
    refine told_e1 ⟨_, Tryz.func46, rfl⟩ (fun w1 v hw hv => ?_) <| told_e2 ⟨_, Tryz.func93, rfl⟩ (fun w1 v u hw hv hu => ?_) <| told_attempt rfl rfl rfl hr htab told_nil
    · refine (neg_calls w1 v q hv).mono ?_
      rintro e w' ⟨v', rfl, h1, h2⟩
      exact ⟨_, rfl, h1, h2⟩
    · refine (plus_calls w1 v u p (-q) L hv hu hp (ratLe_neg hq) hL).mono ?_
      rintro e w' ⟨v', rfl, h1, h2⟩
      rw [← Rat.sub_eq_add_neg] at h1
      exact ⟨_, rfl, h1, h2⟩
  refine (run_script follows namesOK (S := [shR, shR, shR, shR, .one, shR]) rfl hT (n := 50) (ts := A2 (tg 0) (tg 1)) (rs := A2 (tg 3) (tg 4)) (by kernel_rfl) (xs := #[va, vb]) (ps2 ha hb)).mono ?_
  rintro e w' ⟨x, rfl, hx, hB⟩
  obtain ⟨a, b, rfl, h1, h2⟩ := un2 hx
  have h2 : b = .int .i64 (keptE (p - q)) := h2
  subst h2
  exact ⟨a, rfl, h1, hB⟩
theorem mulS_calls (w : World) (va vb : Value) (p q : Rat) (L : Nat) (ha : RatAt w va p) (hb : RatAt w vb q) (hp : RatLe p L) (hq : RatLe q L) (hL : L ≤ 1000000) (hr : RatLe (p * q) 100000) (htab : Pow10 w) :
    CallsIn Fence.wide 0 Tryz.prog 41 #[va, vb] w fun e w' => ∃ v', e = .returned (.tuple #[v', .int .i64 (keptE (p * q))]) ∧ RatAt w' v' (keptQ (p * q)) ∧ Below w.heap.size w w' := by
  have hT : TI w [leafR p, leafR q, leafR (p * q), leafR (keptQ (p * q)), leafI (keptE (p * q))] [(94, A2 (tg 0) (tg 1), A1 (tg 2)), (66, A1 (.fn 67 (A1 (tg 2)) .nil), A2 (tg 3) (tg 4))] := by
    refine told_e2 ⟨_, Tryz.func94, rfl⟩ (fun w1 v u hw hv hu => ?_) <| told_attempt rfl rfl rfl hr htab told_nil
    refine (times_calls w1 v u p q L hv hu hp hq hL).mono ?_
    rintro e w' ⟨v', rfl, h1, h2⟩
    exact ⟨_, rfl, h1, h2⟩
  refine (run_script follows namesOK (S := [shR, shR, shR, shR, .one]) rfl hT (n := 50) (ts := A2 (tg 0) (tg 1)) (rs := A2 (tg 3) (tg 4)) (by kernel_rfl) (xs := #[va, vb]) (ps2 ha hb)).mono ?_
  rintro e w' ⟨x, rfl, hx, hB⟩
  obtain ⟨a, b, rfl, h1, h2⟩ := un2 hx
  have h2 : b = .int .i64 (keptE (p * q)) := h2
  subst h2
  exact ⟨a, rfl, h1, hB⟩
theorem quoS_calls (w : World) (va vb : Value) (p q : Rat) (L : Nat) (ha : RatAt w va p) (hb : RatAt w vb q) (hp : RatLe p L) (hq : RatLe q L) (hL : L ≤ 1000000) (hr : RatLe (p / q) 100000) (hq0 : q.num ≠ 0) (htab : Pow10 w) :
    CallsIn Fence.wide 0 Tryz.prog 47 #[va, vb] w fun e w' => ∃ v', e = .returned (.tuple #[v', .int .i64 (keptE (p / q))]) ∧ RatAt w' v' (keptQ (p / q)) ∧ Below w.heap.size w w' := by
  have hT : ∀ s, sgnR q = s → TI w [leafR p, leafR q, leafR (p / q), leafR (keptQ (p / q)), leafI (keptE (p / q))] [(17, A1 (tg 1), A1 (vi s)), (76, A2 (tg 0) (tg 1), A1 (tg 2)), (66, A1 (.fn 67 (A1 (tg 2)) .nil), A2 (tg 3) (tg 4))] := by
    intro s hs
    refine told_e1 ⟨_, Tryz.func17, rfl⟩ (fun w1 v hw hv => ?_) <| told_e2 ⟨_, Tryz.func76, rfl⟩ (fun w1 v u hw hv hu => ?_) <| told_attempt rfl rfl rfl hr htab told_nil
    · refine (sign_calls w1 v q hv).mono ?_
      rintro e w' ⟨rfl, h2⟩
      exact ⟨_, rfl, by rw [hs]; rfl, h2⟩
    · refine (over_calls w1 v u p q L hv hu hp hq hq0 hL).mono ?_
      rintro e w' ⟨v', rfl, h1, h2⟩
      exact ⟨_, rfl, h1, h2⟩
  have hR : CallsIn Fence.wide 0 Tryz.prog 47 #[va, vb] w fun e w' => ∃ x, e = .returned x ∧ PackOK (Gs [leafR p, leafR q, leafR (p / q), leafR (keptQ (p / q)), leafI (keptE (p / q))]) (A2 (tg 3) (tg 4)) x w' ∧ Below w.heap.size w w' := by
    rcases Int.lt_trichotomy q.num 0 with h | h | h
    · exact run_script follows namesOK (S := [shR, shR, shR, shR, .one]) rfl (hT (-1) (by unfold sgnR; rw [if_pos h])) (n := 50) (ts := A2 (tg 0) (tg 1)) (rs := A2 (tg 3) (tg 4)) (by kernel_rfl) (xs := #[va, vb]) (ps2 ha hb)
    · exact absurd h hq0
    · exact run_script follows namesOK (S := [shR, shR, shR, shR, .one]) rfl (hT 1 (by unfold sgnR; rw [if_neg (by omega), if_neg hq0])) (n := 50) (ts := A2 (tg 0) (tg 1)) (rs := A2 (tg 3) (tg 4)) (by kernel_rfl) (xs := #[va, vb]) (ps2 ha hb)
  refine hR.mono ?_
  rintro e w' ⟨x, rfl, hx, hB⟩
  obtain ⟨a, b, rfl, h1, h2⟩ := un2 hx
  have h2 : b = .int .i64 (keptE (p / q)) := h2
  subst h2
  exact ⟨a, rfl, h1, hB⟩
end Go.Num
