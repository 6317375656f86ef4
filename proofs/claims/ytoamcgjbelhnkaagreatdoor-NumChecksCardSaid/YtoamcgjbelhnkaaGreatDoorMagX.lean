/-
  The program's magnitudes: what the small functions answer.
  Conditions: none.
-/
import Derived.Test.YtoamcgjbelhnkaaGreatDoorRows
import Derived.Test.YtoamcgjbelhnkaaGreatDoorProg
import Derived.Test.YtoamcgjbelhnkaaGreatDoorNumX
import Derived.WalkKit
import Derived.KernelRfl
import Derived.LoopIn
import Derived.Below
import Derived.BigFrameIn
import Derived.Handy
import Derived.RegionIn
import Derived.OwnWalkIn
import Derived.Sort.QuietIn
import Derived.Deep.QuietTactic
import Derived.Sort.AtCallIn
import Derived.Laws.OwnMore

namespace Go.Num
open Go.RowKit Go.Proofs Go.Proofs.YtoamcgjbelhnkaaGreatDoor

theorem _root_.Go.RowKit.Hid.intro {p : Prop} (h : p) : Hid p := h
@[simp] theorem wide_fn (f : FuncId) : Fence.wide.fn f := trivial
@[simp] theorem wide_depth : Fence.wide.depth = none := rfl
def Stop (p : Prop) : Prop := p
theorem stop {p : Prop} (h : Stop p) : p := h
theorem add_block (a : Addr) (i : Nat) : (a.add i).block = a.block := by
  unfold Addr.add
  split <;> rfl
def intOf : Value → Int
  | .int _ n => n
  | _ => 0
theorem drewN_below (w : World) (m : Nat) : Below w.heap.size w (w.drewN m) := ⟨rfl, rfl, rfl, Nat.le_refl _, fun _ _ => rfl⟩

theorem drew2_below (w : World) (m n : Nat) : Below w.heap.size w ((w.drewN m).drewN n) := ⟨rfl, rfl, rfl, Nat.le_refl _, fun _ _ => rfl⟩

/-- A block of cells of a type. -/
def Elem (w : World) (b : Nat) (e : TypeId) : Prop := ∃ cs fz, w.heap[b]? = some (.cells cs e fz)
theorem Elem.lt {w : World} {b : Nat} {e : TypeId} (h : Elem w b e) : b < w.heap.size := by
  obtain ⟨cs, fz, h⟩ := h
  exact (Array.getElem?_eq_some_iff.1 h).1
theorem Elem.of_block {w w' : World} {b : Nat} {e : TypeId} (h : Elem w b e) (hb : w'.heap[b]? = w.heap[b]?) : Elem w' b e := by
  obtain ⟨cs, fz, h⟩ := h
  exact ⟨cs, fz, hb.trans h⟩
theorem Elem.below {w w' : World} {b : Nat} {e : TypeId} {c : Nat} (h : Elem w b e) (hb : Below c w w') (hc : b < c) : Elem w' b e := h.of_block (hb.block b hc)
theorem Elem.setCell {w : World} {b : Nat} {e : TypeId} (h : Elem w b e) (a : Addr) (v : Value) : Elem (w.setCell a v) b e := by
  obtain ⟨cs, fz, h⟩ := h
  by_cases he : b = a.block
  · subst he
    have hm : (w.setCell a v).heap[a.block]? = (w.heap.modify a.block fun | .cells c elem frozen => .cells (if a.spot.isSome then c else c.setIfInBounds a.off v) elem frozen | o => o)[a.block]? := rfl
    rw [Array.getElem?_modify, if_pos rfl, h] at hm
    exact ⟨_, _, hm⟩
  · exact ⟨cs, fz, (Below.heap_setCell _ _ _ _ he).trans h⟩
theorem elem_new (w : World) (cs : Array Value) (e : TypeId) : Elem (w.alloc (.cells cs e)) w.heap.size e := ⟨cs, (0, 0), by show (w.heap.push _)[w.heap.size]? = _; simp⟩
theorem Elem.ne {w : World} {b c : Nat} {e f : TypeId} (h : Elem w b e) (h' : Elem w c f) (hef : e ≠ f) : b ≠ c := by
  rintro rfl
  obtain ⟨cs, fz, h⟩ := h
  obtain ⟨cs', fz', h'⟩ := h'
  rw [h] at h'
  injection h' with h'
  injection h' with _ h'
  exact hef h'
/-- So many limbs of a number lie here. -/
def LimbsAt (w : World) (v : Value) (n k : Nat) : Prop :=
  (k = 0 ∧ ∃ o c, v = .slice o 0 c) ∨ ∃ (a : Addr) (cap : Nat), v = .slice (some a) k cap ∧ 0 < k ∧ k ≤ cap ∧ (k ≤ 1000000000 ∧ cap ≤ 9223372036854775807) ∧ Elem w a.block 111 ∧ ∀ i, i < k → w.cell? (a.add i) = some (.int .u64 ((limb n i : Nat) : Int))
/-- A magnitude: just its limbs. -/
def MagAt (w : World) (v : Value) (n : Nat) : Prop := ∃ k, LenIs n k ∧ LimbsAt w v n k
theorem LimbsAt.below {w w' : World} {v : Value} {n k : Nat} (h : LimbsAt w v n k) (hb : Below w.heap.size w w') : LimbsAt w' v n k := by
  rcases h with h | ⟨a, cap, h1, h2, h3, h4, h5, h6⟩
  · exact .inl h
  · exact .inr ⟨a, cap, h1, h2, h3, h4, h5.below hb h5.lt, fun i hi => (hb.cell (p := a.add i) (by rw [add_block]; exact h5.lt)).trans (h6 i hi)⟩
theorem LimbsAt.form {w : World} {v : Value} {n k : Nat} (h : LimbsAt w v n k) : ∃ o c, v = .slice o k c ∧ (0 < k → ∃ a : Addr, o = some a ∧ a.block < w.heap.size ∧ ∀ i, i < k → w.cell? (a.add i) = some (.int .u64 ((limb n i : Nat) : Int))) := by
  rcases h with ⟨rfl, o, c, rfl⟩ | ⟨a, cap, rfl, h2, h3, h4, h5, h6⟩
  · exact ⟨o, c, rfl, fun h => by omega⟩
  · exact ⟨some a, cap, rfl, fun _ => ⟨a, rfl, h5.lt, h6⟩⟩
theorem LimbsAt.elem {w : World} {a : Addr} {n k c : Nat} (h : LimbsAt w (.slice (some a) k c) n k) (hk : 0 < k) : Elem w a.block 111 := by
  rcases h with ⟨rfl, _⟩ | ⟨a', cap, e, h2, h3, h4, h5, h6⟩
  · omega
  · injection e with e _ _
    injection e with e
    subst e
    exact h5
theorem LimbsAt.small {w : World} {v : Value} {n k : Nat} (h : LimbsAt w v n k) : k ≤ 1000000000 := by
  rcases h with ⟨rfl, _⟩ | ⟨a, cap, rfl, h2, h3, h4, h5, h6⟩ <;> omega

/-- Which of two numbers is less. -/
def CmpIs (x y : Nat) (r : Int) : Prop := (r < 0 ↔ x < y) ∧ (r = 0 ↔ x = y)
theorem cmp_len {x y k l : Nat} (hx : LenIs x k) (hy : LenIs y l) (h : k < l) : x < y := by
  have := pow_mono (i := k) (j := l - 1) (by omega)
  have h1 := hx.1
  have h2 := hy.2
  omega

set_option maxRecDepth 100000 in
set_option maxHeartbeats 4000000 in
/-- **'cmp' of magnitudes.** -/
theorem cmp_calls (w : World) (va vb : Value) (x y : Nat) (ha : MagAt w va x) (hb : MagAt w vb y) :
    CallsIn Fence.wide 0 Tryz.prog 130 #[va, vb] w fun e w' => ∃ r : Int, CmpIs x y r ∧ e = .returned (.int .i64 r) ∧ Below w.heap.size w w' := by
  obtain ⟨k, hk, hla⟩ := ha
  obtain ⟨l, hl, hlb⟩ := hb
  have hks := hla.small
  have hls := hlb.small
  obtain ⟨o1, c1, rfl, h1⟩ := hla.form
  obtain ⟨o2, c2, rfl, h2⟩ := hlb.form
  have H1 := Hid.intro h1
  have H2 := Hid.intro h2
  have HK := Hid.intro hk
  have HL := Hid.intro hl
  clear h1 h2 hk hl hla hlb
  refine callsIn_of_wp Tryz.func130 rfl trivial ?_ rfl
  simp only [Tryz.ntmps130, List.size_toArray, List.length_cons, List.length_nil, Nat.reduceAdd, Nat.reduceSub, Array.replicate_succ, Array.replicate_zero, List.push_toArray, List.append_toArray, List.nil_append, List.cons_append]
  by_cases hkl : k = l
  · subst hkl
    gi_wp2
    gi_loopw [5] (fun i wr => ∃ i0 : Int, -1 ≤ i0 ∧ i0 < k ∧ i = .int .i64 i0 ∧ Hid (x / B ^ (i0 + 1).toNat = y / B ^ (i0 + 1).toNat) ∧ Hid (Below w.heap.size w wr)) (fun i _ => (intOf i + 1).toNat)
    case atStart => exact ⟨(k : Int) - 1, by omega, by omega, rfl, Hid.intro (by
      rw [show ((k : Int) - 1 + 1).toNat = k by omega, Nat.div_eq_of_lt HK.out.1, Nat.div_eq_of_lt HL.out.1]), Below.refl _ _⟩
    case round =>
      obtain ⟨i0, hi1, hi2, rfl, HE, HB⟩ := hrel
      by_cases h0 : 0 ≤ i0
      · obtain ⟨m, rfl⟩ : ∃ m : Nat, i0 = (m : Int) := ⟨i0.toNat, by omega⟩
        obtain ⟨a1, rfl, ha1, hc1⟩ := H1.out (by omega)
        obtain ⟨a2, rfl, ha2, hc2⟩ := H2.out (by omega)
        have p1 := (HB.out.cell (p := a1.add m) (by rw [add_block]; exact ha1)).trans (hc1 m (by omega))
        have p2 := (HB.out.cell (p := a2.add m) (by rw [add_block]; exact ha2)).trans (hc2 m (by omega))
        rw [show ((m : Int) + 1).toNat = m + 1 by omega] at HE
        have dx := div_step x m
        have dy := div_step y m
        obtain ⟨lx, hlx⟩ : ∃ l, limb x m = l := ⟨_, rfl⟩
        obtain ⟨ly, hly⟩ : ∃ l, limb y m = l := ⟨_, rfl⟩
        rw [hlx] at p1 dx
        rw [hly] at p2 dy
        rw [HE.out] at dx
        have HX := Hid.intro dx
        have HY := Hid.intro dy
        clear hc1 hc2 hlx hly dx dy
        by_cases he : lx = ly
        · subst he
          have hee : ((lx : Int) != (lx : Int)) = false := by simp
          gi_wp2
          gi_quiet (fail)
          gi_wp2
          refine ⟨⟨(m : Int) - 1, by omega, by omega, by go_num, Hid.intro ?_, HB.out.trans ((drewN_below _ _).mono HB.out.size)⟩, by simp [intOf]⟩
          rw [show ((m : Int) - 1 + 1).toNat = m by omega, HX.out, HY.out]
        · have he' : ¬ (lx : Int) = (ly : Int) := by omega
          have he2 : ((lx : Int) != (ly : Int)) = true := by simp; omega
          have hcm : x / B ^ m < y / B ^ m ↔ lx < ly := by rw [HX.out, HY.out]; omega
          have hxy : CmpIs x y (if lx < ly then -1 else 1) := by
            have h1 : lx < ly → x < y := fun h => by
              apply Classical.byContradiction
              intro hno
              have := Nat.div_le_div_right (c := B ^ m) (show y ≤ x by omega)
              have := hcm.2 h
              omega
            have h2 : ¬ lx < ly → y < x := fun h => by
              apply Classical.byContradiction
              intro hno
              have h3 := Nat.div_le_div_right (c := B ^ m) (show x ≤ y by omega)
              rw [HX.out, HY.out] at h3
              omega
            by_cases h : lx < ly
            · rw [if_pos h]; have := h1 h; exact ⟨by omega, by omega⟩
            · rw [if_neg h]; have := h2 h; exact ⟨by omega, by omega⟩
          have HXY := Hid.intro hxy
          clear hxy hcm
          gi_wp2
          gi_quiet (fail)
          gi_wp2
          by_cases hlt : lx < ly
          · have hl1 : decide ((lx : Int) < (ly : Int)) = true := by simp; omega
            have hl2 : (lx : Int) < (ly : Int) := by omega
            rw [if_pos hlt] at HXY
            gi_quiet (fail)
            gi_wp2
            all_goals (first | go_returns | go_ret | go_end0)
            exact ⟨-1, HXY.out, rfl, HB.out.trans (Below.mono (by first | exact drewN_below _ _ | exact drew2_below _ _ _) HB.out.size)⟩
          · have hl1 : decide ((lx : Int) < (ly : Int)) = false := by simp; omega
            have hl2 : ¬ (lx : Int) < (ly : Int) := by omega
            rw [if_neg hlt] at HXY
            gi_quiet (fail)
            gi_wp2
            all_goals (first | go_returns | go_ret | go_end0)
            exact ⟨1, HXY.out, rfl, HB.out.trans (Below.mono (by first | exact drewN_below _ _ | exact drew2_below _ _ _) HB.out.size)⟩
      · have hm1 : i0 = -1 := by omega
        subst hm1
        have hxy : x = y := by
          have := HE.out
          simpa using this
        gi_wp2
        all_goals (first | go_returns | go_ret | go_end0)
        exact ⟨0, ⟨by omega, by omega⟩, rfl, HB.out⟩
  · have hkl' : ¬ (k : Int) = (l : Int) := by omega
    gi_wp2
    all_goals (first | go_returns | go_ret | go_end0)
    refine ⟨(k : Int) - (l : Int), ⟨?_, ?_⟩, rfl, Below.refl _ _⟩
    · constructor
      · intro h; exact cmp_len HK.out HL.out (by omega)
      · intro h
        apply Classical.byContradiction
        intro hno
        have := cmp_len HL.out HK.out (by omega)
        omega
    · constructor
      · intro h; omega
      · intro h; subst h; exact absurd (HK.out.unique HL.out) hkl
end Go.Num

namespace Go.Num
open Go.RowKit Go.Proofs Go.Proofs.YtoamcgjbelhnkaaGreatDoor

set_option maxRecDepth 100000 in
set_option maxHeartbeats 4000000 in
/-- **'trim' of limbs.** -/
theorem trim_calls (w : World) (v : Value) (n k : Nat) (h : LimbsAt w v n k) (hn : n < B ^ k) :
    CallsIn Fence.wide 0 Tryz.prog 107 #[v] w fun e w' => ∃ v', e = .returned v' ∧ (MagAt w' v' n ∧ v'.ownBlock = v.ownBlock) ∧ Below w.heap.size w w' := by
  have hks := h.small
  have HLA := Hid.intro h
  obtain ⟨o, c, rfl, h1⟩ := h.form
  have H1 := Hid.intro h1
  have HN := Hid.intro hn
  have hkc : k ≤ c ∧ c ≤ 9223372036854775807 ∨ k = 0 := by
    rcases h with ⟨h0, _⟩ | ⟨a, cap, hv, h2, h3, h4, h5, h6⟩
    · exact .inr h0
    · injection hv with _ _ hc
      left; omega
  clear h h1 hn
  refine callsIn_of_wp Tryz.func107 rfl trivial ?_ rfl
  simp only [Tryz.ntmps107, List.size_toArray, List.length_cons, List.length_nil, Nat.reduceAdd, Nat.reduceSub, Array.replicate_succ, Array.replicate_zero, List.push_toArray, List.append_toArray, List.nil_append, List.cons_append]
  gi_wp2
  gi_loopw [3] (fun i wr => ∃ j : Nat, j ≤ k ∧ i = .int .i64 (j : Int) ∧ Hid (n < B ^ j) ∧ Hid (Below w.heap.size w wr)) (fun i _ => (intOf i).toNat)
  case atStart => exact ⟨k, Nat.le_refl _, rfl, HN.out, Below.refl _ _⟩
  case round =>
    obtain ⟨j, hj, rfl, HJ, HB⟩ := hrel
    by_cases h0 : 0 < j
    · obtain ⟨m, rfl⟩ : ∃ m, j = m + 1 := ⟨j - 1, by omega⟩
      obtain ⟨a, rfl, ha, hc⟩ := H1.out (by omega)
      have p := (HB.out.cell (p := a.add m) (by rw [add_block]; exact ha)).trans (hc m (by omega))
      obtain ⟨l, hl⟩ : ∃ l, limb n m = l := ⟨_, rfl⟩
      rw [hl] at p
      have HLm := Hid.intro hl
      clear hc hl
      by_cases hz : l = 0
      · subst hz
        gi_wp2
        exact ⟨⟨m, by omega, rfl, lt_of_zero HJ.out HLm.out, HB.out⟩, by simp [intOf]⟩
      · have hz' : ¬ (l : Int) = 0 := by omega
        gi_wp2
        all_goals (first | go_returns | go_ret | go_end0)
        obtain ⟨a', e', ha', hc⟩ := H1.out (by omega)
        injection e' with e'
        subst e'
        exact ⟨_, rfl, ⟨⟨m + 1, lenIs_of HJ.out (by rw [HLm.out]; exact hz), .inr ⟨a, m + 1, rfl, by omega, Nat.le_refl _, by omega, (HLA.out.elem (by omega)).below HB.out ha, fun i hi => (HB.out.cell (p := a.add i) (by rw [add_block]; exact ha)).trans (hc i (by omega))⟩⟩, rfl⟩, HB.out⟩
    · have hj0 : j = 0 := by omega
      subst hj0
      gi_wp2
      all_goals (first | go_returns | go_ret | go_end0)
      exact ⟨_, rfl, ⟨⟨0, ⟨HJ.out, .inl rfl⟩, .inl ⟨rfl, o, 0, rfl⟩⟩, by cases o <;> rfl⟩, HB.out⟩

theorem mag_one {w : World} {v : Value} {n : Nat} (h : MagAt w v n) : (∃ o c, v = .slice o 1 c ∧ 0 < n ∧ n < B ∧ ∃ a : Addr, o = some a ∧ a.block < w.heap.size ∧ w.cell? (a.add 0) = some (.int .u64 (n : Int))) ∨ (∃ o k c, v = .slice o k c ∧ k ≠ 1 ∧ k ≤ 1000000000 ∧ n ≠ 1) := by
  obtain ⟨k, hk, hl⟩ := h
  have hs := hl.small
  obtain ⟨o, c, rfl, h1⟩ := hl.form
  by_cases hk1 : k = 1
  · subst hk1
    left
    obtain ⟨a, rfl, ha, hc⟩ := h1 (by omega)
    have h2 := hk.1
    have h3 := hk.2
    rw [Nat.pow_one] at h2
    simp at h3
    refine ⟨_, _, rfl, by omega, h2, a, rfl, ha, ?_⟩
    rw [hc 0 (by omega)]
    have : limb n 0 = n := by unfold limb; rw [Nat.pow_zero, Nat.div_one, Nat.mod_eq_of_lt h2]
    rw [this]
  · right
    refine ⟨o, k, c, rfl, hk1, hs, fun e => hk1 ?_⟩
    subst e
    exact hk.unique ⟨by rw [Nat.pow_one]; decide, .inr (by simp)⟩

set_option maxRecDepth 100000 in
set_option maxHeartbeats 4000000 in
/-- **'isOne' of a magnitude.** -/
theorem isOne_calls (w : World) (v : Value) (n : Nat) (h : MagAt w v n) :
    CallsIn Fence.wide 0 Tryz.prog 65 #[v] w fun e w' => e = .returned (.bool (decide (n = 1))) ∧ Below w.heap.size w w' := by
  rcases mag_one h with ⟨o, c, rfl, h0, hB, a, rfl, ha, hc⟩ | ⟨o, k, c, rfl, hk, hs, hn⟩
  · have hc' : w.cell? a = some (.int .u64 (n : Int)) := hc
    clear h
    refine callsIn_of_wp Tryz.func65 rfl trivial ?_ rfl
    simp only [Tryz.ntmps65, List.size_toArray, List.length_cons, List.length_nil, Nat.reduceAdd, Nat.reduceSub, Array.replicate_succ, Array.replicate_zero, List.push_toArray, List.append_toArray, List.nil_append, List.cons_append]
    by_cases h1 : n = 1
    · subst h1
      gi_wp2
      all_goals (first | go_returns | go_ret | go_end0)
      exact ⟨by simp, Below.refl _ _⟩
    · have h1' : ¬ (n : Int) = 1 := by omega
      gi_wp2
      all_goals (first | go_returns | go_ret | go_end0)
      exact ⟨by simp [h1]; exact h1', Below.refl _ _⟩
  · have hk' : ¬ (k : Int) = 1 := by omega
    clear h
    refine callsIn_of_wp Tryz.func65 rfl trivial ?_ rfl
    simp only [Tryz.ntmps65, List.size_toArray, List.length_cons, List.length_nil, Nat.reduceAdd, Nat.reduceSub, Array.replicate_succ, Array.replicate_zero, List.push_toArray, List.append_toArray, List.nil_append, List.cons_append]
    gi_wp2
    all_goals (first | go_returns | go_ret | go_end0)
    exact ⟨by simp [hn], Below.refl _ _⟩
end Go.Num

namespace Go.Num
open Go.RowKit Go.Proofs Go.Proofs.YtoamcgjbelhnkaaGreatDoor

/-- A value that lies in no elder block. -/
def Fresh (b : Nat) (v : Value) : Prop := ∀ k, v.ownBlock = some k → b ≤ k
theorem fresh_of {b m c : Nat} {a : Addr} {v : Value} (h : v.ownBlock = (Value.slice (some a) m c).ownBlock) (hg : b ≤ a.block) : Fresh b v := by
  intro k hk
  rw [h] at hk
  have : a.block = k := by simpa [Value.ownBlock] using hk
  omega
theorem Fresh.mono {b b' : Nat} {v : Value} (h : Fresh b v) (hb : b' ≤ b) : Fresh b' v := fun k hk => Nat.le_trans hb (h k hk)
theorem u64_small {x : Nat} (h : x < 18446744073709551616) : IntKind.u64.wrap (x : Int) = (x : Int) := by
  have e : IntKind.u64.wrap (x : Int) = (x : Int) % 18446744073709551616 := rfl
  rw [e]
  omega

set_option maxRecDepth 100000 in
set_option maxHeartbeats 4000000 in
/-- **'magOf' a number.** -/
theorem magOf_calls (w : World) (n : Nat) (hn : n < 18446744073709551616) :
    CallsIn Fence.wide 0 Tryz.prog 74 #[.int .u64 (n : Int)] w fun e w' => ∃ v', e = .returned v' ∧ (MagAt w' v' n ∧ Fresh w.heap.size v') ∧ Below w.heap.size w w' := by
  have r0 : ((n : Int).tmod 1000000000) = ((limb n 0 : Nat) : Int) := by
    unfold limb B
    rw [Nat.pow_zero, Nat.div_one]
    rfl
  have q1 : ((n : Int).tdiv 1000000000) = ((n / 1000000000 : Nat) : Int) := rfl
  have r1 : (((n / 1000000000 : Nat) : Int).tmod 1000000000) = ((limb n 1 : Nat) : Int) := by
    unfold limb B
    rw [Nat.pow_one]
    rfl
  have q2 : (((n / 1000000000 : Nat) : Int).tdiv 1000000000) = ((limb n 2 : Nat) : Int) := by
    have h : limb n 2 = n / 1000000000 / 1000000000 := by
      unfold limb B
      rw [Nat.div_div_eq_div_mul]
      omega
    rw [h]
    rfl
  obtain ⟨l0, hl0⟩ : ∃ l, limb n 0 = l := ⟨_, rfl⟩
  obtain ⟨l1, hl1⟩ : ∃ l, limb n 1 = l := ⟨_, rfl⟩
  obtain ⟨l2, hl2⟩ : ∃ l, limb n 2 = l := ⟨_, rfl⟩
  obtain ⟨d, hd⟩ : ∃ d, n / 1000000000 = d := ⟨_, rfl⟩
  rw [hl0] at r0
  rw [hd] at q1
  rw [hd, hl1] at r1
  rw [hd, hl2] at q2
  have hdn : d < 18446744073709551616 := by omega
  have hl2B : l2 < B := by rw [← hl2]; exact limb_lt n 2
  have hBB : B = 1000000000 := rfl
  have w1 := u64_small hdn
  have w2 := u64_small (x := l2) (by omega)
  have HL0 := Hid.intro hl0
  have HL1 := Hid.intro hl1
  have HL2 := Hid.intro hl2
  clear hl0 hl1 hl2 hd
  refine callsIn_of_wp Tryz.func74 rfl trivial ?_ rfl
  simp only [Tryz.ntmps74, List.size_toArray, List.length_cons, List.length_nil, Nat.reduceAdd, Nat.reduceSub, Array.replicate_succ, Array.replicate_zero, List.push_toArray, List.append_toArray, List.nil_append, List.cons_append]
  gi_wp2_with (gi_at_call 107; refine stop ?_)
  unfold Stop
  refine (trim_calls _ _ n 3 (.inr ⟨⟨w.heap.size, 0, none⟩, 3, rfl, by omega, Nat.le_refl _, by omega, elem_new _ _ _, fun i hi => ?_⟩) ?_).mono ?_
  · rw [Addr.add_lit, Nat.zero_add, World.cell?_alloc_new]
    have h3 : i = 0 ∨ i = 1 ∨ i = 2 := by omega
    rcases h3 with rfl | rfl | rfl
    · rw [HL0.out]; rfl
    · rw [HL1.out]; rfl
    · rw [HL2.out]; rfl
  · have : B ^ 3 = 1000000000000000000000000000 := by decide
    omega
  · rintro e w2 ⟨v', rfl, hm, hB⟩
    have HM := Hid.intro hm
    have HB := Hid.intro (((Below.refl w.heap.size w).alloc (Nat.le_refl _) _).trans (hB.mono (by simp)))
    clear hm hB
    gi_wp2
    all_goals (first | go_returns | go_ret | go_end0)
    exact ⟨_, rfl, ⟨HM.out.1, fresh_of HM.out.2 (Nat.le_refl _)⟩, HB.out⟩
end Go.Num

namespace Go.Num
open Go.RowKit Go.Proofs Go.Proofs.YtoamcgjbelhnkaaGreatDoor

theorem wpListIn_make_full {F : Fence} {n : Nat} {P : Program} (w : World) {ops : Array Oper} {rest : List Oper} {o : Oper} {a : Act} {Q : Exit → Act → World → Prop}
    (hg : o.guard = none) (l c : Operand) (t : TypeId) (hop : o.op = Op.makeSlice t l c)
    (base : Nat) (e : TypeId) (i : TypeInfo) (z : Value) (size : Nat) (h1 : P.underlying t = some (.slice e)) (h2 : P.info? e = some i) (h3 : i.zero = some z) (h4 : i.size = size)
    (kl kc : IntKind) (L C : Int) (m : Nat) (hl : a.eval l = .int kl L) (hc : a.eval c = .int kc C) (hL : L = (m : Int)) (hC : C = (m : Int)) (b2 : i.bytes * m ≤ 281474976710656) (b3 : m ≤ maxLen) (b4 : base ≤ w.heap.size)
    (hK : ∀ w', w'.ownsRow base e size (.slice (some ⟨w.heap.size, 0, none⟩) m m) m (madeCells z.cells (m * size)).toList → w.grownBy w' none → wpListIn F n P ops Q rest (a.put o.dst (.slice (some ⟨w.heap.size, 0, none⟩) m m)) w') :
    wpListIn F n P ops Q (o :: rest) a w := by
  refine wpListIn_plain hg fun K hK' => ?_
  obtain ⟨w', hrun, r1, r2⟩ := run_make_full (P := P) w base t e i z size h1 h2 h3 h4 kl kc m b2 b3 b4
  subst hL
  subst hC
  unfold Oper.wpIn
  refine ⟨?_, ?_⟩
  · simp [Oper.about, hop]
  · rw [Oper.semAt_plain F _ _ (by rw [hop]; intro c hc'; cases hc')]
    simp [execOp, hop, hl, hc, hrun, Result.andThen]
    exact hK' _ _ (hK w' r1 r2)

/-- A row of cells of the call's own. -/
def ArrAt (w : World) (g n : Nat) (f : Nat → Value) : Prop := ∀ i, i < n → w.cell? ⟨g, i, none⟩ = some (f i) ∧ w.frozen? ⟨g, i, none⟩ = false

theorem ArrAt.set {w : World} {g n : Nat} {f : Nat → Value} (h : ArrAt w g n f) {i : Nat} (hi : i < n) (v : Value) : ArrAt (w.setCell ⟨g, i, none⟩ v) g n (fun j => if j = i then v else f j) := by
  intro j hj
  refine ⟨?_, by rw [World.frozen?_setCell]; exact (h j hj).2⟩
  by_cases e : j = i
  · subst e
    simp only [if_true]
    exact World.cell?_setCell_same _ _ _ (h j hj).1
  · simp only [if_neg e]
    rw [World.cell?_setCell_other _ _ _ _ (by intro q; injection q; omega)]
    exact (h j hj).1
theorem ArrAt.congr {w : World} {g n : Nat} {f f' : Nat → Value} (h : ArrAt w g n f) (e : ∀ i, i < n → f i = f' i) : ArrAt w g n f' := fun i hi => by rw [← e i hi]; exact h i hi
theorem ArrAt.below {w w' : World} {g n B : Nat} {f : Nat → Value} (h : ArrAt w g n f) (hg : g < B) (hb : Below B w w') : ArrAt w' g n f := fun i hi => by
  rw [hb.cell (p := ⟨g, i, none⟩) hg, hb.frozen (p := ⟨g, i, none⟩) hg]; exact h i hi
theorem ArrAt.of_row {w : World} {base : Nat} {e : TypeId} {g n cap : Nat} {xs : List Value} (h : w.ownsRow base e 1 (.slice (some ⟨g, 0, none⟩) n cap) n xs) {f : Nat → Value} (hf : ∀ i, i < n → xs[i]? = some (f i)) : ArrAt w g n f :=
  fun i hi => ⟨(h.cellAt i (by omega)).trans (hf i hi), h.frozenAt i⟩

theorem ArrAt.new (w : World) (cs : Array Value) (t : TypeId) {n : Nat} {f : Nat → Value} (h : ∀ i, i < n → cs[i]? = some (f i)) : ArrAt (w.alloc (.cells cs t)) w.heap.size n f :=
  fun i hi => ⟨by rw [World.cell?_alloc_new]; exact h i hi, World.frozen?_alloc_new _ _ _ _⟩
theorem ArrAt.alloc {w : World} {g n : Nat} {f : Nat → Value} (h : ArrAt w g n f) (hg : g < w.heap.size) (o : Obj) : ArrAt (w.alloc o) g n f :=
  fun i hi => ⟨by rw [World.cell?_alloc_lt _ _ _ hg]; exact (h i hi).1, by rw [World.frozen?_alloc_old _ _ _ (by simp; omega)]; exact (h i hi).2⟩
theorem ArrAt.lt {w : World} {g n : Nat} {f : Nat → Value} (h : ArrAt w g n f) (hn : 0 < n) : g < w.heap.size := World.block_lt_of_cell? _ _ (h 0 hn).1
theorem ArrAt.grown {w w' : World} {g n : Nat} {f : Nat → Value} {row : Option Nat} (h : ArrAt w g n f) (hl : g < w.heap.size) (hg : w.grownBy w' row) (hne : ∀ k, row = some k → k ≠ g) : ArrAt w' g n f := fun i hi => by
  have hb : w'.heap[(⟨g, i, none⟩ : Addr).block]? = w.heap[(⟨g, i, none⟩ : Addr).block]? := hg.block g hl (fun e => hne g e.symm rfl)
  rw [World.cell?_of_block hb, World.frozen?_of_block hb]; exact h i hi
theorem t111_info : Tryz.prog.info? 111 = some Tryz.t111 := by kernel_rfl
theorem u23 : Tryz.prog.underlying 23 = some (.slice 111) := by kernel_rfl
theorem u22' : Tryz.prog.underlying 22 = some (.slice 111) := by kernel_rfl
theorem t111_zero : Tryz.t111.zero = some (.int .u64 0) := by kernel_rfl
theorem t111_size : Tryz.t111.size = 1 := by kernel_rfl
theorem t111_bytes : Tryz.t111.bytes = 8 := by kernel_rfl
theorem made_limbs {n i : Nat} (hi : i < n) : (madeCells #[Value.int .u64 0] n).toList[i]? = some (.int .u64 0) := by
  simp [madeCells, hi, Nat.mod_one]
theorem limb_zero (i : Nat) : limb 0 i = 0 := by unfold limb; simp
theorem elem_of_row {w : World} {base : Nat} {e : TypeId} {size : Nat} {g n cap : Nat} {xs : List Value} (h : w.ownsRow base e size (.slice (some ⟨g, 0, none⟩) n cap) n xs) : Elem w g e := by
  rcases h.2 with ⟨h, _⟩ | ⟨g', cap', cur, h1, h2, h3, _⟩
  · cases h
  · injection h1 with h1 _ _
    injection h1 with h1
    injection h1 with h1 _ _
    subst h1
    exact ⟨cur, (0, 0), h3⟩
/-- A row of its own that holds limbs. -/
theorem ArrAt.limbs {w : World} {g n k cap : Nat} (h : ArrAt w g k fun i => .int .u64 ((limb n i : Nat) : Int)) (hk : 0 < k) (hc : k ≤ cap) (h9 : k ≤ 1000000000 ∧ cap ≤ 9223372036854775807) (hE : Elem w g 111) : LimbsAt w (.slice (some ⟨g, 0, none⟩) k cap) n k :=
  .inr ⟨⟨g, 0, none⟩, cap, rfl, hk, hc, h9, hE, fun i hi => by rw [Addr.add_lit, Nat.zero_add]; exact (h i hi).1⟩
end Go.Num

namespace Go.Num
open Go.RowKit Go.Proofs Go.Proofs.YtoamcgjbelhnkaaGreatDoor

/-- The limbs from a place on, zeros below. -/
def topL (q i j : Nat) : Nat := if i ≤ j then limb q j else 0

set_option maxRecDepth 100000 in
set_option maxHeartbeats 4000000 in
/-- **'short' of magnitudes.** -/
theorem short_calls (w : World) (va : Value) (x b : Nat) (h : MagAt w va x) (hb : 0 < b) (hB : b < B) :
    CallsIn Fence.wide 0 Tryz.prog 149 #[va, .int .u64 (b : Int)] w fun e w' => ∃ v', e = .returned (.tuple #[v', .int .u64 ((x % b : Nat) : Int)]) ∧ (MagAt w' v' (x / b) ∧ Fresh w.heap.size v') ∧ Below w.heap.size w w' := by
  obtain ⟨k, hk, hl⟩ := h
  have hks := hl.small
  obtain ⟨o, c, rfl, h1⟩ := hl.form
  have H1 := Hid.intro h1
  have HK := Hid.intro hk
  have HB := Hid.intro hB
  have hBB : b < 1000000000 := hB
  clear h1 hk hl hB
  refine callsIn_of_wp Tryz.func149 rfl trivial ?_ rfl
  simp only [Tryz.ntmps149, List.size_toArray, List.length_cons, List.length_nil, Nat.reduceAdd, Nat.reduceSub, Array.replicate_succ, Array.replicate_zero, List.push_toArray, List.append_toArray, List.nil_append, List.cons_append]
  gi_wp2_with (gi_at_make; refine stop ?_)
  unfold Stop
  refine wpListIn_make_full _ rfl _ _ _ rfl w.heap.size 111 Tryz.t111 _ 1 u23 t111_info t111_zero t111_size _ _ _ _ k rfl rfl rfl rfl (by rw [t111_bytes]; omega) (by unfold maxLen; omega) (Nat.le_refl _) ?_
  intro W4 hown hgrow
  obtain ⟨g, hg'⟩ : ∃ g, w.heap.size = g := ⟨_, rfl⟩
  have HA4 : Hid (ArrAt W4 g k fun i => .int .u64 ((topL (x / b) k i : Nat) : Int)) := by
    rw [← hg']
    exact ArrAt.of_row hown fun i hi => by unfold topL; rw [if_neg (by omega)]; exact made_limbs (by omega)
  have HB5 : Hid (Below w.heap.size w W4) := (Below.refl _ w).grown hgrow (Nat.le_refl _) (fun _ h => by cases h)
  have hg : w.heap.size ≤ g := by omega
  have HE5 : Hid (Elem W4 g 111) := by rw [← hg']; exact elem_of_row hown
  rw [hg']
  clear hown hgrow hg'
  gi_wp2
  gi_loopw [7, 8] (fun r i wr => ∃ (i0 : Int) (r0 : Nat), -1 ≤ i0 ∧ i0 < k ∧ i = .int .i64 i0 ∧ r = .int .u64 (r0 : Int) ∧ r0 < b ∧ Hid (x / B ^ (i0 + 1).toNat % b = r0) ∧ Hid (ArrAt wr g k fun j => .int .u64 ((topL (x / b) (i0 + 1).toNat j : Nat) : Int)) ∧ Hid (Below w.heap.size w wr) ∧ Hid (Elem wr g 111)) (fun _ i _ => (intOf i + 1).toNat)
  case atStart => exact ⟨(k : Int) - 1, 0, by omega, by omega, rfl, rfl, hb, Hid.intro (by
    rw [show ((k : Int) - 1 + 1).toNat = k by omega, Nat.div_eq_of_lt HK.out.1, Nat.zero_mod]), by rw [show ((k : Int) - 1 + 1).toNat = k by omega]; exact HA4.out, HB5.out, HE5.out⟩
  case round =>
    obtain ⟨i0, r0, hi1, hi2, rfl, rfl, hr, HR, HA, HBr, HE⟩ := hrel
    clear HA4 HB5 HE5
    by_cases h0 : 0 ≤ i0
    · obtain ⟨m, rfl⟩ : ∃ m : Nat, i0 = (m : Int) := ⟨i0.toNat, by omega⟩
      obtain ⟨a, rfl, ha, hc⟩ := H1.out (by omega)
      have p := (HBr.out.cell (p := a.add m) (by rw [add_block]; exact ha)).trans (hc m (by omega))
      rw [show ((m : Int) + 1).toNat = m + 1 by omega] at HR HA
      have s1 := short_limb hb (Nat.le_of_lt HB.out) x m
      have s2 := (rest_step x b m).1
      rw [HR.out] at s1 s2
      obtain ⟨l, hl⟩ : ∃ l, limb x m = l := ⟨_, rfl⟩
      have hlB : l < 1000000000 := by rw [← hl]; exact limb_lt x m
      rw [hl] at p s1 s2
      have hmk : m < k := by omega
      have z1 : wr.cell? ⟨g, m, none⟩ = some (.int .u64 0) := (HA.out m hmk).1.trans (by show some (Value.int .u64 ((topL (x / b) (m + 1) m : Nat) : Int)) = _; unfold topL; rw [if_neg (by omega)]; rfl)
      have z2 := (HA.out m hmk).2
      obtain ⟨t, ht⟩ : ∃ t, r0 * B + l = t := ⟨_, rfl⟩
      have htB : t < 18446744073709551616 := by
        rw [← ht]
        have : r0 * B ≤ 1000000000 * 1000000000 := Nat.mul_le_mul (by omega) (Nat.le_refl _)
        omega
      have e1 : IntKind.u64.wrap ((r0 : Int) * 1000000000) = ((r0 * 1000000000 : Nat) : Int) := by
        have : r0 * 1000000000 < 18446744073709551616 := by omega
        have := u64_small this
        rw [← this]
        simp
      have e2 : IntKind.u64.wrap (((r0 * 1000000000 : Nat) : Int) + (l : Int)) = (t : Int) := by
        have := u64_small htB
        rw [← this, ← ht]
        simp [B]
      rw [ht] at s1 s2
      have e3 : ((t : Int).tdiv (b : Int)) = ((t / b : Nat) : Int) := rfl
      have e4 : ((t : Int).tmod (b : Int)) = ((t % b : Nat) : Int) := rfl
      obtain ⟨Q, hQ⟩ : ∃ Q, t / b = Q := ⟨_, rfl⟩
      obtain ⟨R, hRR⟩ : ∃ R, t % b = R := ⟨_, rfl⟩
      rw [hQ] at s1 e3
      rw [hRR] at s2 e4
      have hRb : R < b := by rw [← hRR]; exact Nat.mod_lt _ hb
      have hQt : Q < 18446744073709551616 := by rw [← hQ]; exact Nat.lt_of_le_of_lt (Nat.div_le_self _ _) htB
      have e5 := u64_small hQt
      have e6 : ((r0 : Int) * 1000000000 + (l : Int)) / (b : Int) = (Q : Int) := by rw [← hQ, ← ht]; simp [B]
      have e7 : ((r0 : Int) * 1000000000 + (l : Int)) % (b : Int) = (R : Int) := by rw [← hRR, ← ht]; simp [B]
      have S1 := Hid.intro s1
      have S2 := Hid.intro s2
      have hb0 : ¬ (b : Int) = 0 := by omega
      clear hc hl s1 s2 ht hQ hRR
      gi_wp2
      refine ⟨⟨(m : Int) - 1, R, by omega, by omega, by go_num, congrArg (Value.int .u64) e7, hRb, ?_, ?_, HBr.out.setCell hg _, HE.out.setCell _ _⟩, by simp [intOf]⟩
      · rw [show ((m : Int) - 1 + 1).toNat = m by omega]
        exact S2.out.symm
      · rw [show ((m : Int) - 1 + 1).toNat = m by omega]
        refine Hid.intro (ArrAt.congr (HA.out.set hmk (.int .u64 (Q : Int))) fun j _ => ?_)
        unfold topL
        by_cases e : j = m
        · subst e
          rw [if_pos rfl, if_pos (Nat.le_refl _), S1.out]
        · rw [if_neg e]
          by_cases e2 : m + 1 ≤ j
          · rw [if_pos e2, if_pos (by omega)]
          · rw [if_neg e2, if_neg (by omega)]
    · have hm1 : i0 = -1 := by omega
      subst hm1
      have hr0 : x % b = r0 := by
        have := HR.out
        simpa using this
      have HRE := Hid.intro hr0
      have hlt : x / b < B ^ k := Nat.lt_of_le_of_lt (Nat.div_le_self _ _) HK.out.1
      have hla : LimbsAt wr (.slice (some ⟨g, 0, none⟩) k k) (x / b) k := by
        rcases Nat.eq_zero_or_pos k with h | h
        · subst h; exact .inl ⟨rfl, _, _, rfl⟩
        · refine ArrAt.limbs (ArrAt.congr HA.out fun j _ => ?_) h (Nat.le_refl _) ⟨hks, by omega⟩ HE.out
          unfold topL
          rw [if_pos (by simp)]
      have HT := Hid.intro (trim_calls wr _ (x / b) k hla hlt)
      clear hlt hla hr0
      gi_wp2_with (gi_at_call 107; refine HT.out.mono ?_; rintro e w7 ⟨v', rfl, hm, hB7⟩; have HM := Hid.intro hm; have HB7 := Hid.intro (HBr.out.trans (hB7.mono HBr.out.size)); clear hm hB7)
      all_goals (first | go_returns | go_ret | go_end0)
      refine ⟨v', ?_, ⟨HM.out.1, fresh_of HM.out.2 hg⟩, HB7.out⟩
      rw [HRE.out]
      rfl
end Go.Num

namespace Go.Num
open Go.RowKit Go.Proofs Go.Proofs.YtoamcgjbelhnkaaGreatDoor

/-- The first limbs of a number. -/
def firstL (n k : Nat) : List Value := (List.range k).map fun i => .int .u64 ((limb n i : Nat) : Int)
theorem firstL_len (n k : Nat) : (firstL n k).length = k := by simp [firstL]
theorem firstL_succ (n k : Nat) : firstL n (k + 1) = firstL n k ++ [.int .u64 ((limb n k : Nat) : Int)] := by simp [firstL, List.range_succ]
theorem limb_new (w : World) (i : Int) (t : TypeId) : ∀ k u, [Value.int .u64 i][k]? = some u → (w.alloc (.cells #[.int .u64 i] t)).cell? ((⟨w.heap.size, 0, none⟩ : Addr).add k) = some u := by
  intro k u h
  rw [Addr.add_lit, Nat.zero_add, World.cell?_alloc_new]
  match k, h with
  | 0, h => exact h
/-- A row of the call's own that holds the first limbs. -/
theorem row_limbs {w : World} {base n k : Nat} {v : Value} (h : w.ownsRow base 111 1 v k (firstL n k)) (hk : k ≤ 500000000) : LimbsAt w v n k := by
  rcases h.2 with ⟨rfl, rfl⟩ | ⟨g, cap, cur, rfl, h1, h2, h3, h4, h5, h6⟩
  · exact .inl ⟨rfl, none, 0, rfl⟩
  · rcases Nat.eq_zero_or_pos k with h0 | h0
    · subst h0; exact .inl ⟨rfl, _, _, rfl⟩
    · refine .inr ⟨⟨g, 0, none⟩, cap, rfl, h0, h3, ⟨by omega, by unfold maxLen at h4; omega⟩, ⟨cur, (0, 0), h2⟩, fun i hi => ?_⟩
      have := h.cells rfl i (.int .u64 ((limb n i : Nat) : Int)) (by simp [firstL, hi])
      rw [Addr.add_lit] at this ⊢
      exact this

theorem LenIs.le {n k L : Nat} (h : LenIs n k) (hn : n < B ^ L) : k ≤ L := by
  apply Classical.byContradiction
  intro hno
  have h2 := h.2
  have := pow_mono (i := L) (j := k - 1) (by omega)
  omega

theorem own_base {w : World} {base : Nat} {e : TypeId} {size : Nat} {v : Value} {n : Nat} {xs : List Value} (h : w.ownsRow base e size v n xs) {k : Nat} (hk : v.ownBlock = some k) : base ≤ k := by
  rcases h.2 with ⟨rfl, _⟩ | ⟨g, cap, cur, rfl, hg, _⟩
  · cases hk
  · have : g = k := by simpa [Value.ownBlock] using hk
    omega
/-- A limb is put behind a row of the call's own. -/
theorem append_limb {F : Fence} {n : Nat} (w wr : World) {ops : Array Oper} {rest : List Oper} {o : Oper} {a : Act} {Q : Exit → Act → World → Prop}
    (hg : o.guard = none) (s x : Operand) (hop : o.op = Op.call { callee := Callee.builtin Builtin.append, args := #[s, x], argTypes := #[23, 23] })
    (v : Value) (j N : Nat) (hs : a.eval s = v) (HO : Hid (wr.ownsRow w.heap.size 111 1 v j (firstL N j))) (z : Int) (t : TypeId) (hx : a.eval x = .slice (some ⟨wr.heap.size, 0, none⟩) 1 1) (hz : z = ((limb N j : Nat) : Int)) (hj : j < 500000000)
    (HB : Hid (Below w.heap.size w wr))
    (hK : ∀ v' w', Hid (w'.ownsRow w.heap.size 111 1 v' (j + 1) (firstL N (j + 1))) → Hid (Below w.heap.size w w') → wpListIn F n Tryz.prog ops Q rest (a.put o.dst v') w') :
    wpListIn F n Tryz.prog ops Q (o :: rest) a (wr.alloc (.cells #[.int .u64 z] t)) := by
  have hsz := HB.out.size
  refine wpListIn_append_own _ hg s x 23 hop w.heap.size 111 Tryz.t111 _ 1 8 Go.Num.u23 t111_info t111_zero t111_size t111_bytes rfl (by decide) v j (firstL N j) hs (World.ownsRow.alloc HO.out _) ⟨wr.heap.size, 0, none⟩ 1 1 [.int .u64 z] hx rfl (limb_new _ _ _) (fun u hu => by simp at hu; subst hu; rfl) (by unfold maxLen; omega) (by omega) (by simp; omega) ?_
  intro v' w' h1 h2 _
  refine hK v' w' ?_ ?_
  · rw [firstL_succ, ← hz]; exact h1
  · refine (HB.out.alloc hsz _).grown h2 (by simp; omega) fun k hk => ?_
    exact own_base HO.out hk

set_option maxRecDepth 100000 in
set_option maxHeartbeats 8000000 in
/-- **'add' of magnitudes.** -/
theorem add_calls (w : World) (va vb : Value) (x y L : Nat) (ha : MagAt w va x) (hb : MagAt w vb y) (hx : x < B ^ L) (hy : y < B ^ L) (hL : L ≤ 100000000) :
    CallsIn Fence.wide 0 Tryz.prog 131 #[va, vb] w fun e w' => ∃ v', e = .returned v' ∧ (MagAt w' v' (x + y) ∧ Fresh w.heap.size v') ∧ Below w.heap.size w w' := by
  obtain ⟨k, hk, hla⟩ := ha
  obtain ⟨l, hl, hlb⟩ := hb
  have hkL := hk.le hx
  have hlL := hl.le hy
  clear hx hy
  obtain ⟨o1, c1, rfl, h1⟩ := hla.form
  obtain ⟨o2, c2, rfl, h2⟩ := hlb.form
  have H1 := Hid.intro h1
  have H2 := Hid.intro h2
  have HK := Hid.intro hk
  have HL := Hid.intro hl
  clear h1 h2 hk hl hla hlb
  refine callsIn_of_wp Tryz.func131 rfl trivial ?_ rfl
  simp only [Tryz.ntmps131, List.size_toArray, List.length_cons, List.length_nil, Nat.reduceAdd, Nat.reduceSub, Array.replicate_succ, Array.replicate_zero, List.push_toArray, List.append_toArray, List.nil_append, List.cons_append]
  obtain ⟨M, hM⟩ : ∃ M, max k l = M := ⟨_, rfl⟩
  have hMk : k ≤ M := by omega
  have hMl : l ≤ M := by omega
  have hM9 : M ≤ 100000000 := by omega
  have HS : Hid (x < B ^ M ∧ y < B ^ M) := ⟨Nat.lt_of_lt_of_le HK.out.1 (pow_mono hMk), Nat.lt_of_lt_of_le HL.out.1 (pow_mono hMl)⟩
  by_cases hkl : k < l
  case' pos => have hML : M = l := by omega
  case' neg => have hML : M = k := by omega
  all_goals
    have HML := Hid.intro hML
    clear hM hML
    gi_wp2_with (gi_at_make; refine stop ?_)
    unfold Stop
    refine wpListIn_make_own _ rfl _ _ _ rfl w.heap.size 111 Tryz.t111 _ 1 Go.Num.u23 t111_info t111_zero t111_size _ _ _ (_ + 1) rfl rfl rfl (by rw [t111_bytes]; omega) (by unfold maxLen; omega) (Nat.le_refl _) ?_
    intro W4 hown hgrow
    have HO4 : Hid (W4.ownsRow w.heap.size 111 1 _ 0 (firstL (x + y) 0)) := hown
    have HB4 : Hid (Below w.heap.size w W4) := (Below.refl _ w).grown hgrow (Nat.le_refl _) (fun _ h => by cases h)
    clear hown hgrow
    gi_wp2
    gi_loopw [5, 6, 7] (fun v cv i wr => ∃ j c : Nat, j ≤ M + 1 ∧ i = .int .i64 (j : Int) ∧ cv = .int .u64 (c : Int) ∧ Hid (carryA x y j = c) ∧ Hid (wr.ownsRow w.heap.size 111 1 v j (firstL (x + y) j)) ∧ Hid (Below w.heap.size w wr)) (fun _ _ i _ => M + 2 - (intOf i).toNat)
    case atStart => exact ⟨0, 0, by omega, rfl, rfl, Hid.intro (carryA_zero x y), HO4.out, HB4.out⟩
    case round =>
      obtain ⟨j, c, hj, rfl, rfl, HC, HO, HBr⟩ := hrel
      have hc1 : c ≤ 1 := by rw [← HC.out]; exact carryA_le x y j
      have hjc : c = 1 → j ≤ M := fun hc => by
        apply Classical.byContradiction
        intro hno
        have : j = M + 1 := by omega
        subst this
        have s := (add_step x y M).2
        rw [limb_high HS.out.1, limb_high HS.out.2, HC.out, hc] at s
        have := carryA_le x y M
        have hBB : B = 1000000000 := rfl
        rw [Nat.div_eq_of_lt (by omega)] at s
        omega
      have s := add_step x y j
      rw [HC.out] at s
      obtain ⟨lx, hlx⟩ : ∃ l, limb x j = l := ⟨_, rfl⟩
      obtain ⟨ly, hly⟩ : ∃ l, limb y j = l := ⟨_, rfl⟩
      have bx : lx < 1000000000 := by rw [← hlx]; exact limb_lt x j
      have by' : ly < 1000000000 := by rw [← hly]; exact limb_lt y j
      rw [hlx, hly] at s
      have HSt := Hid.intro s
      clear s HO4 HB4
      have hMM := HML.out
      have hBB : B = 1000000000 := rfl
      by_cases hjk : j < k
      · by_cases hjl : j < l
        · have hj1 : j ≤ M := by omega
          obtain ⟨a1, rfl, ha1, hc1'⟩ := H1.out (by omega)
          have p1 := (HBr.out.cell (p := a1.add j) (by rw [add_block]; exact ha1)).trans (hc1' j hjk)
          rw [hlx] at p1
          clear hc1'
          obtain ⟨a2, rfl, ha2, hc2'⟩ := H2.out (by omega)
          have p2 := (HBr.out.cell (p := a2.add j) (by rw [add_block]; exact ha2)).trans (hc2' j hjl)
          rw [hly] at p2
          clear hc2'
          have hjkd : decide ((j : Int) < (k : Int)) = true := decide_eq_true (by omega)
          have hjld : decide ((j : Int) < (l : Int)) = true := decide_eq_true (by omega)
          clear hlx hly
          gi_wp2_with (gi_at_builtin; refine stop ?_)
          unfold Stop
          refine append_limb w wr rfl _ _ rfl u5 j (x + y) rfl HO _ _ rfl ?_ (by omega) HBr ?_
          · rw [HSt.out.1]; simp [B]; omega
          · intro v2 w2 HO2 HB2
            gi_wp2
            refine ⟨⟨j + 1, (lx + ly + c) / B, by omega, by go_num, ?_, HSt.out.2.symm ▸ rfl, HO2, HB2⟩, by simp [intOf]; omega⟩
            simp [B]; omega
        · try omega
          all_goals
            have hj1 : j ≤ M := by omega
            obtain ⟨a1, rfl, ha1, hc1'⟩ := H1.out (by omega)
            have p1 := (HBr.out.cell (p := a1.add j) (by rw [add_block]; exact ha1)).trans (hc1' j hjk)
            rw [hlx] at p1
            clear hc1'
            have hy0 : ly = 0 := by rw [← hly]; exact limb_high (Nat.lt_of_lt_of_le HL.out.1 (pow_mono (by omega)))
            subst hy0
            have hjl' : ¬ (j : Int) < (l : Int) := by omega
            have hjld : decide ((j : Int) < (l : Int)) = false := decide_eq_false (by omega)
            have hjkd : decide ((j : Int) < (k : Int)) = true := decide_eq_true (by omega)
            clear hlx hly
            gi_wp2_with (gi_at_builtin; refine stop ?_)
            unfold Stop
            refine append_limb w wr rfl _ _ rfl u5 j (x + y) rfl HO _ _ rfl ?_ (by omega) HBr ?_
            · rw [HSt.out.1]; simp [B]; omega
            · intro v2 w2 HO2 HB2
              gi_wp2
              refine ⟨⟨j + 1, (lx + 0 + c) / B, by omega, by go_num, ?_, HSt.out.2.symm ▸ rfl, HO2, HB2⟩, by simp [intOf]; omega⟩
              simp [B]; omega
      · by_cases hjl : j < l
        · try omega
          all_goals
            have hj1 : j ≤ M := by omega
            have hx0 : lx = 0 := by rw [← hlx]; exact limb_high (Nat.lt_of_lt_of_le HK.out.1 (pow_mono (by omega)))
            subst hx0
            have hjk' : ¬ (j : Int) < (k : Int) := by omega
            have hjkd : decide ((j : Int) < (k : Int)) = false := decide_eq_false (by omega)
            obtain ⟨a2, rfl, ha2, hc2'⟩ := H2.out (by omega)
            have p2 := (HBr.out.cell (p := a2.add j) (by rw [add_block]; exact ha2)).trans (hc2' j hjl)
            rw [hly] at p2
            clear hc2'
            have hjld : decide ((j : Int) < (l : Int)) = true := decide_eq_true (by omega)
            clear hlx hly
            gi_wp2_with (gi_at_builtin; refine stop ?_)
            unfold Stop
            refine append_limb w wr rfl _ _ rfl u5 j (x + y) rfl HO _ _ rfl ?_ (by omega) HBr ?_
            · rw [HSt.out.1]; simp [B]; omega
            · intro v2 w2 HO2 HB2
              gi_wp2
              refine ⟨⟨j + 1, (0 + ly + c) / B, by omega, by go_num, ?_, HSt.out.2.symm ▸ rfl, HO2, HB2⟩, by simp [intOf]; omega⟩
              simp [B]; omega
        · by_cases hc0 : c = 1
          · subst hc0
            have hj1 := hjc rfl
            have hx0 : lx = 0 := by rw [← hlx]; exact limb_high (Nat.lt_of_lt_of_le HK.out.1 (pow_mono (by omega)))
            subst hx0
            have hjk' : ¬ (j : Int) < (k : Int) := by omega
            have hjkd : decide ((j : Int) < (k : Int)) = false := decide_eq_false (by omega)
            have hy0 : ly = 0 := by rw [← hly]; exact limb_high (Nat.lt_of_lt_of_le HL.out.1 (pow_mono (by omega)))
            subst hy0
            have hjl' : ¬ (j : Int) < (l : Int) := by omega
            have hjld : decide ((j : Int) < (l : Int)) = false := decide_eq_false (by omega)
            clear hlx hly
            gi_wp2_with (gi_at_builtin; refine stop ?_)
            unfold Stop
            refine append_limb w wr rfl _ _ rfl u5 j (x + y) rfl HO _ _ rfl ?_ (by omega) HBr ?_
            · rw [HSt.out.1]; (first | (simp [B]; done) | (simp [B]; omega))
            · intro v2 w2 HO2 HB2
              gi_wp2
              refine ⟨⟨j + 1, (0 + 0 + 1) / B, by omega, by go_num, ?_, HSt.out.2.symm ▸ rfl, HO2, HB2⟩, by simp [intOf]; omega⟩
              (first | (simp [B]; done) | (simp [B]; omega))
          · have hc00 : c = 0 := by omega
            subst hc00
            have hjk' : ¬ (j : Int) < (k : Int) := by omega
            have hjkd : decide ((j : Int) < (k : Int)) = false := decide_eq_false (by omega)
            have hjl' : ¬ (j : Int) < (l : Int) := by omega
            have hjld : decide ((j : Int) < (l : Int)) = false := decide_eq_false (by omega)
            have hlt : x + y < B ^ j := by
              have s0 := sum_low x y j
              rw [low_high (Nat.lt_of_lt_of_le HK.out.1 (pow_mono (by omega))), low_high (Nat.lt_of_lt_of_le HL.out.1 (pow_mono (by omega))), HC.out, Nat.mul_zero, Nat.add_zero] at s0
              rw [s0]; exact low_lt _ _
            have HT := Hid.intro (trim_calls wr _ (x + y) j (row_limbs HO.out (by omega)) hlt)
            clear hlx hly hlt
            gi_wp2_with (gi_at_call 107; refine HT.out.mono ?_; rintro e w7 ⟨v', rfl, hm, hB7⟩; have HM := Hid.intro hm; have HB7 := Hid.intro (HBr.out.trans (hB7.mono HBr.out.size)); clear hm hB7)
            all_goals (first | go_returns | go_ret | go_end0)
            exact ⟨v', rfl, ⟨HM.out.1, fun k hk => own_base HO.out (HM.out.2 ▸ hk)⟩, HB7.out⟩
end Go.Num

namespace Go.Num
open Go.RowKit Go.Proofs Go.Proofs.YtoamcgjbelhnkaaGreatDoor

set_option maxRecDepth 100000 in
set_option maxHeartbeats 8000000 in
/-- **'sub' of magnitudes.** -/
theorem sub_calls (w : World) (va vb : Value) (x y L : Nat) (ha : MagAt w va x) (hb : MagAt w vb y) (hyx : y ≤ x) (hx : x < B ^ L) (hL : L ≤ 100000000) :
    CallsIn Fence.wide 0 Tryz.prog 132 #[va, vb] w fun e w' => ∃ v', e = .returned v' ∧ (MagAt w' v' (x - y) ∧ Fresh w.heap.size v') ∧ Below w.heap.size w w' := by
  obtain ⟨k, hk, hla⟩ := ha
  obtain ⟨l, hl, hlb⟩ := hb
  have hkL := hk.le hx
  have hls := hlb.small
  clear hx
  obtain ⟨o1, c1, rfl, h1⟩ := hla.form
  obtain ⟨o2, c2, rfl, h2⟩ := hlb.form
  have H1 := Hid.intro h1
  have H2 := Hid.intro h2
  have HK := Hid.intro hk
  have HL := Hid.intro hl
  have HYX := Hid.intro hyx
  clear h1 h2 hk hl hla hlb hyx
  refine callsIn_of_wp Tryz.func132 rfl trivial ?_ rfl
  simp only [Tryz.ntmps132, List.size_toArray, List.length_cons, List.length_nil, Nat.reduceAdd, Nat.reduceSub, Array.replicate_succ, Array.replicate_zero, List.push_toArray, List.append_toArray, List.nil_append, List.cons_append]
  gi_wp2_with (gi_at_make; refine stop ?_)
  unfold Stop
  refine wpListIn_make_own _ rfl _ _ _ rfl w.heap.size 111 Tryz.t111 _ 1 Go.Num.u23 t111_info t111_zero t111_size _ _ _ k rfl rfl rfl (by rw [t111_bytes]; omega) (by unfold maxLen; omega) (Nat.le_refl _) ?_
  intro W4 hown hgrow
  have HO4 : Hid (W4.ownsRow w.heap.size 111 1 _ 0 (firstL (x - y) 0)) := hown
  have HB4 : Hid (Below w.heap.size w W4) := (Below.refl _ w).grown hgrow (Nat.le_refl _) (fun _ h => by cases h)
  clear hown hgrow
  gi_wp2
  gi_loopw [5, 6, 15] (fun v bv i wr => ∃ j bo : Nat, j ≤ k ∧ i = .int .i64 (j : Int) ∧ bv = .int .u64 (bo : Int) ∧ Hid (borrowS x y j = bo) ∧ Hid (wr.ownsRow w.heap.size 111 1 v j (firstL (x - y) j)) ∧ Hid (Below w.heap.size w wr)) (fun _ _ i _ => k - (intOf i).toNat)
  case atStart => exact ⟨0, 0, by omega, rfl, rfl, Hid.intro (borrowS_zero x y), HO4.out, HB4.out⟩
  case round =>
    obtain ⟨j, bo, hj, rfl, rfl, HC, HO, HBr⟩ := hrel
    have hb1 : bo ≤ 1 := by rw [← HC.out]; exact borrowS_le x y j
    have s := sub_case HYX.out j
    rw [HC.out] at s
    obtain ⟨lx, hlx⟩ : ∃ l, limb x j = l := ⟨_, rfl⟩
    obtain ⟨ly, hly⟩ : ∃ l, limb y j = l := ⟨_, rfl⟩
    have bx : lx < 1000000000 := by rw [← hlx]; exact limb_lt x j
    have by' : ly < 1000000000 := by rw [← hly]; exact limb_lt y j
    rw [hlx, hly] at s
    have hBB : B = 1000000000 := rfl
    rw [hBB] at s
    have HSt := Hid.intro s
    clear s HO4 HB4 hBB
    by_cases hjk : j < k
    · obtain ⟨a1, rfl, ha1, hc1'⟩ := H1.out (by omega)
      have p1 := (HBr.out.cell (p := a1.add j) (by rw [add_block]; exact ha1)).trans (hc1' j hjk)
      rw [hlx] at p1
      clear hc1'
      by_cases hjl : j < l
      · obtain ⟨a2, rfl, ha2, hc2'⟩ := H2.out (by omega)
        have p2 := (HBr.out.cell (p := a2.add j) (by rw [add_block]; exact ha2)).trans (hc2' j hjl)
        rw [hly] at p2
        clear hc2' hlx hly
        by_cases hlt : lx < ly + bo
        · have hs := HSt.out.1 hlt
          have HS := Hid.intro hs
          have hlt' : (lx : Int) < (bo : Int) + (ly : Int) := by omega
          clear hs hlt
          gi_wp2_with (gi_at_builtin; refine stop ?_)
          unfold Stop
          refine append_limb w wr rfl _ _ rfl u5 j (x - y) rfl HO _ _ rfl ?_ (by omega) HBr ?_
          · rw [HS.out.2]; omega
          · intro v2 w2 HO2 HB2
            gi_wp2
            exact ⟨⟨j + 1, 1, by omega, by go_num, rfl, HS.out.1, HO2, HB2⟩, by simp [intOf]; omega⟩
        · have hs := HSt.out.2 hlt
          have HS := Hid.intro hs
          have hlt' : ¬ (lx : Int) < (bo : Int) + (ly : Int) := by omega
          clear hs
          gi_wp2_with (gi_at_builtin; refine stop ?_)
          unfold Stop
          refine append_limb w wr rfl _ _ rfl u5 j (x - y) rfl HO _ _ rfl ?_ (by omega) HBr ?_
          · rw [HS.out.2]; omega
          · intro v2 w2 HO2 HB2
            gi_wp2
            exact ⟨⟨j + 1, 0, by omega, by go_num, rfl, HS.out.1, HO2, HB2⟩, by simp [intOf]; omega⟩
      · have hy0 : ly = 0 := by rw [← hly]; exact limb_high (Nat.lt_of_lt_of_le HL.out.1 (pow_mono (by omega)))
        subst hy0
        clear hlx hly
        by_cases hlt : lx < 0 + bo
        · have hs := HSt.out.1 hlt
          have HS := Hid.intro hs
          have hlt' : (lx : Int) < (bo : Int) := by omega
          clear hs hlt
          gi_wp2_with (gi_at_builtin; refine stop ?_)
          unfold Stop
          refine append_limb w wr rfl _ _ rfl u5 j (x - y) rfl HO _ _ rfl ?_ (by omega) HBr ?_
          · rw [HS.out.2]; omega
          · intro v2 w2 HO2 HB2
            gi_wp2
            exact ⟨⟨j + 1, 1, by omega, by go_num, rfl, HS.out.1, HO2, HB2⟩, by simp [intOf]; omega⟩
        · have hs := HSt.out.2 hlt
          have HS := Hid.intro hs
          have hlt' : ¬ (lx : Int) < (bo : Int) := by omega
          clear hs
          gi_wp2_with (gi_at_builtin; refine stop ?_)
          unfold Stop
          refine append_limb w wr rfl _ _ rfl u5 j (x - y) rfl HO _ _ rfl ?_ (by omega) HBr ?_
          · rw [HS.out.2]; omega
          · intro v2 w2 HO2 HB2
            gi_wp2
            exact ⟨⟨j + 1, 0, by omega, by go_num, rfl, HS.out.1, HO2, HB2⟩, by simp [intOf]; omega⟩
    · have hjk0 : j = k := by omega
      subst hjk0
      have hlt : x - y < B ^ j := Nat.lt_of_le_of_lt (Nat.sub_le _ _) HK.out.1
      have HT := Hid.intro (trim_calls wr _ (x - y) j (row_limbs HO.out (by omega)) hlt)
      clear hlx hly hlt
      gi_wp2_with (gi_at_call 107; refine HT.out.mono ?_; rintro e w7 ⟨v', rfl, hm, hB7⟩; have HM := Hid.intro hm; have HB7 := Hid.intro (HBr.out.trans (hB7.mono HBr.out.size)); clear hm hB7)
      all_goals (first | go_returns | go_ret | go_end0)
      exact ⟨v', rfl, ⟨HM.out.1, fun k hk => own_base HO.out (HM.out.2 ▸ hk)⟩, HB7.out⟩
end Go.Num
