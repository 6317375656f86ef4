/-
  A fraction of the program; what 'bottom' and 'lowest' answer. What 'DivN' and 'GcdN' of the reference answer. What 'GcdN' of the reference a
  Conditions: see each statement.
-/
import Derived.Test.YtepakfjilnpodaaGreatDoorPAAJ
import Derived.Deep.MidRow
import Derived.Test.YtepakfjilnpodaaGreatDoorPAAK
namespace Go.Num
open Go.RowKit Go.Proofs Go.Proofs.YtepakfjilnpodaaGreatDoor

/-- A fraction lies here, in lowest terms; a denominator 1 has no limbs. -/
def RatAt (w : World) (v : Value) (q : Rat) : Prop := ∃ vn vd, v = .agg #[.bool (decide (q.num < 0)), vn, vd] ∧ MagAt w vn q.num.natAbs ∧ MagAt w vd (if q.den = 1 then 0 else q.den)
theorem RatAt.below {w w' : World} {v : Value} {q : Rat} (h : RatAt w v q) (hb : Below w.heap.size w w') : RatAt w' v q := by
  obtain ⟨vn, vd, h1, h2, h3⟩ := h
  exact ⟨vn, vd, h1, h2.below hb, h3.below hb⟩
/-- The parts of a fraction are at most so long. -/
def RatLe (q : Rat) (L : Nat) : Prop := q.num.natAbs < B ^ L ∧ q.den < B ^ L

theorem magAt_one (w : World) : MagAt (w.alloc (.cells #[.int .u64 1] 116)) (.slice (some ⟨w.heap.size, 0, none⟩) 1 1) 1 := magAt_new w 1 (by decide) (by decide)

set_option maxRecDepth 100000 in
set_option maxHeartbeats 8000000 in
/-- **'bottom'.** -/
theorem bottom_calls (w : World) (v : Value) (q : Rat) (h : RatAt w v q) :
    CallsIn Fence.wide 0 Tryz.prog 132 #[v] w fun e w' => ∃ v', e = .returned v' ∧ MagAt w' v' q.den ∧ Below w.heap.size w w' := by
  obtain ⟨vn, vd, rfl, hn, hd⟩ := h
  have hd0 : q.den ≠ 0 := q.den_nz
  by_cases h1 : q.den = 1
  · rw [if_pos h1] at hd
    obtain ⟨o, k, c, rfl, hk, hk9⟩ := mag_len hd
    have hk0 : k = 0 := hk.2 rfl
    subst hk0
    clear hk hd hn
    refine callsIn_of_wp Tryz.func132 rfl trivial ?_ rfl
    simp only [Tryz.ntmps132, List.size_toArray, List.length_cons, List.length_nil, Nat.reduceAdd, Nat.reduceSub, Array.replicate_succ, Array.replicate_zero, List.push_toArray, List.append_toArray, List.nil_append, List.cons_append]
    gi_wp2
    all_goals (first | go_returns | go_ret | go_end0)
    rw [h1]
    have h := magAt_one (w.alloc (.cells #[.bool (decide (q.num < 0)), vn, .slice o 0 c] 27))
    rw [show (w.alloc (.cells #[.bool (decide (q.num < 0)), vn, .slice o 0 c] 27)).heap.size = w.heap.size + 1 by simp] at h
    refine ⟨_, rfl, h, ?_⟩
    exact ((alloc_below w _).alloc (by simp) _)
  · rw [if_neg h1] at hd
    have HD := Hid.intro hd
    obtain ⟨o, k, c, rfl, hk, hk9⟩ := mag_len hd
    have hk0 : ¬ (k : Int) = 0 := by
      intro h
      exact hd0 (hk.1 (by omega))
    clear hk hd hn
    refine callsIn_of_wp Tryz.func132 rfl trivial ?_ rfl
    simp only [Tryz.ntmps132, List.size_toArray, List.length_cons, List.length_nil, Nat.reduceAdd, Nat.reduceSub, Array.replicate_succ, Array.replicate_zero, List.push_toArray, List.append_toArray, List.nil_append, List.cons_append]
    gi_wp2
    all_goals (first | go_returns | go_ret | go_end0)
    exact ⟨_, rfl, HD.out.below (alloc_below w _), alloc_below w _⟩

theorem MagAt.setCell' {w : World} {v : Value} {x g i : Nat} (h : MagAt w v x) (hne : x = 0 ∨ v.ownBlock ≠ some g) (u : Value) : MagAt (w.setCell ⟨g, i, none⟩ u) v x := by
  rcases hne with h0 | hne
  · subst h0
    obtain ⟨k, hk, hl⟩ := h
    have : k = 0 := hk.unique lenIs_zero
    subst this
    rcases hl with h | ⟨a, cap, rfl, h2, _⟩
    · exact ⟨0, hk, .inl h⟩
    · omega
  · exact h.setCell hne u
theorem MagAt.lt' {w : World} {v : Value} {x : Nat} (h : MagAt w v x) {g : Nat} (hg : w.heap.size ≤ g) : x = 0 ∨ v.ownBlock ≠ some g := by
  rcases Nat.eq_zero_or_pos x with h0 | h0
  · exact .inl h0
  · exact .inr (h.lt h0 g hg)
theorem Fresh.ne {b g : Nat} {v : Value} (h : Fresh b v) (hg : g < b) (x : Nat) : x = 0 ∨ v.ownBlock ≠ some g := .inr fun e => by have := h _ e; omega

theorem isOne_yes (w : World) (v : Value) (n : Nat) (h : MagAt w v n) (h1 : n = 1) :
    CallsIn Fence.wide 0 Tryz.prog 168 #[v] w fun e w' => e = .returned (.bool true) ∧ Below w.heap.size w w' := by
  have := isOne_calls w v n h
  rw [decide_eq_true h1] at this
  exact this
theorem isOne_no (w : World) (v : Value) (n : Nat) (h : MagAt w v n) (h1 : n ≠ 1) :
    CallsIn Fence.wide 0 Tryz.prog 168 #[v] w fun e w' => e = .returned (.bool false) ∧ Below w.heap.size w w' := by
  have := isOne_calls w v n h
  rw [decide_eq_false h1] at this
  exact this
/-- A block of the call's own of three cells, while calls go on. -/
def Own3 (w W : World) : Prop := (∃ f, ArrAt W w.heap.size 3 f) ∧ w.heap.size < W.heap.size ∧ Below w.heap.size w W
theorem Own3.step {w W W' : World} (h : Own3 w W) (hb : Below W.heap.size W W') : Own3 w W' := by
  obtain ⟨⟨f, h1⟩, h2, h3⟩ := h
  exact ⟨⟨f, h1.below h2 hb⟩, Nat.lt_of_lt_of_le h2 hb.size, h3.trans (hb.mono h3.size)⟩
theorem Own3.cells {w W : World} (h : Own3 w W) : ∃ x y z, W.cell? ⟨w.heap.size, 0, none⟩ = some x ∧ W.cell? ⟨w.heap.size, 1, none⟩ = some y ∧ W.cell? ⟨w.heap.size, 2, none⟩ = some z ∧ W.frozen? ⟨w.heap.size, 0, none⟩ = false ∧ W.frozen? ⟨w.heap.size, 1, none⟩ = false ∧ W.frozen? ⟨w.heap.size, 2, none⟩ = false := by
  obtain ⟨⟨f, h⟩, _, _⟩ := h
  exact ⟨_, _, _, (h 0 (by omega)).1, (h 1 (by omega)).1, (h 2 (by omega)).1, (h 0 (by omega)).2, (h 1 (by omega)).2, (h 2 (by omega)).2⟩
theorem own3_new (w : World) (a b c : Value) (t : TypeId) : Own3 w (w.alloc (.cells #[a, b, c] t)) :=
  ⟨⟨fun i => [a, b, c].getD i a, ArrAt.new _ _ _ fun i hi => by
    have : i = 0 ∨ i = 1 ∨ i = 2 := by omega
    rcases this with rfl | rfl | rfl <;> rfl⟩, by simp, (Below.refl _ w).alloc (Nat.le_refl _) _⟩

theorem u25b : (match Tryz.prog.underlying 27 with | some (.struct _) => true | _ => false) = true := by kernel_rfl
theorem u25 : ∃ fs, Tryz.prog.underlying 27 = some (.struct fs) := by
  have h := u25b
  split at h
  · rename_i fs e; exact ⟨fs, e⟩
  · cases h
theorem i25 : (Tryz.prog.info? 27).map (·.size) = some 3 := by kernel_rfl
/-- Back with a fraction out of its variable. -/
theorem ret_rat {fn : Func} {p : Tmp} {R : Ending → World → Prop} {a : Act} {w : World} {x y z : Value} (h : fn.results = #[.cell p 27]) (hd : a.defers = []) (g : Nat) (hp : a.tmps.getD p undef = .pointer (some ⟨g, 0, none⟩))
    (h0 : w.cell? ⟨g, 0, none⟩ = some x) (h1 : w.cell? ⟨g, 1, none⟩ = some y) (h2 : w.cell? ⟨g, 2, none⟩ = some z) (hR : R (.returned (.agg #[x, y, z])) w) : bodyPost Tryz.prog fn R .ret a w := by
  refine bodyPost_ret ?_ hd hR
  obtain ⟨fs, hu⟩ := u25
  have hl := run_loadVar_mid (P := Tryz.prog) w g 0 27 [x, y, z] (.struct fs) (fun j v hj => by
    match j, hj with
    | 0, hj => rw [← hj]; exact h0
    | 1, hj => rw [← hj]; exact h1
    | 2, hj => rw [← hj]; exact h2
    | n + 3, hj => simp at hj) hu rfl i25
  simp only [results, h]
  have hp' : a.tmps[p]?.getD undef = .pointer (some ⟨g, 0, none⟩) := by simpa using hp
  simp [hp', asAddr, hl]
theorem ret_rat3 {fn : Func} {p : Tmp} {R : Ending → World → Prop} {a : Act} {w : World} {x y z x0 x1 x2 : Value} (h : fn.results = #[.cell p 27]) (hd : a.defers = []) (g : Nat) (hp : a.tmps.getD p undef = .pointer (some ⟨g, 0, none⟩))
    (h0 : w.cell? ⟨g, 0, none⟩ = some x0) (h1 : w.cell? ⟨g, 1, none⟩ = some x1) (h2 : w.cell? ⟨g, 2, none⟩ = some x2) (hR : R (.returned (.agg #[x, y, z])) (((w.setCell ⟨g, 0, none⟩ x).setCell ⟨g, 1, none⟩ y).setCell ⟨g, 2, none⟩ z)) :
    bodyPost Tryz.prog fn R .ret a (((w.setCell ⟨g, 0, none⟩ x).setCell ⟨g, 1, none⟩ y).setCell ⟨g, 2, none⟩ z) := by
  have n01 : (⟨g, 0, none⟩ : Addr) ≠ ⟨g, 1, none⟩ := by intro e; injection e with _ e; omega
  have n02 : (⟨g, 0, none⟩ : Addr) ≠ ⟨g, 2, none⟩ := by intro e; injection e with _ e; omega
  have n12 : (⟨g, 1, none⟩ : Addr) ≠ ⟨g, 2, none⟩ := by intro e; injection e with _ e; omega
  refine ret_rat h hd g hp ?_ ?_ ?_ hR
  · rw [World.cell?_setCell_other _ _ _ _ n02.symm, World.cell?_setCell_other _ _ _ _ n01.symm, World.cell?_setCell_same _ _ _ h0]
  · rw [World.cell?_setCell_other _ _ _ _ n12.symm, World.cell?_setCell_same _ _ _ (by rw [World.cell?_setCell_other _ _ _ _ n01]; exact h1)]
  · rw [World.cell?_setCell_same _ _ _ (by rw [World.cell?_setCell_other _ _ _ _ n12, World.cell?_setCell_other _ _ _ _ n02]; exact h2)]

theorem low_sign {q : Rat} {neg : Bool} {n n' d' g : Nat} (h : q.num.natAbs = n' ∧ q.den = d' ∧ (q.num < 0 ↔ neg = true ∧ 0 < n)) (hq : n / g = n') : decide (q.num < 0) = (neg && decide (0 < n')) := by
  cases neg with
  | false => simp at h ⊢; exact h.2.2
  | true =>
    by_cases h0 : 0 < n'
    · have : q.num < 0 := h.2.2.2 ⟨rfl, by
        rcases Nat.eq_zero_or_pos n with e | e
        · subst e; rw [Nat.zero_div] at hq; omega
        · exact e⟩
      simp [this, h0]
    · have : ¬ q.num < 0 := by have := h.1; omega
      simp [this, h0]

set_option maxRecDepth 100000 in
set_option maxHeartbeats 8000000 in
/-- **'lowest'.** -/
theorem lowest_calls (w : World) (neg : Bool) (vn vd : Value) (n d L : Nat) (hn : MagAt w vn n) (hd : MagAt w vd d) (hd0 : d ≠ 0) (hnL : n < B ^ L) (hdL : d < B ^ L) (hL : L ≤ 10000000) :
    CallsIn Fence.wide 0 Tryz.prog 130 #[.bool neg, vn, vd] w fun e w' => ∃ v', e = .returned v' ∧ RatAt w' v' (frac neg n d) ∧ Below w.heap.size w w' := by
  have HN := Hid.intro hn
  have HD := Hid.intro hd
  have HNL := Hid.intro hnL
  have HDL := Hid.intro hdL
  have HFP := Hid.intro (frac_parts (neg := neg) (n := n) hd0)
  obtain ⟨g, hg⟩ : ∃ g, Nat.gcd d n = g := ⟨_, rfl⟩
  have hg0 : 0 < g := by rw [← hg]; exact Nat.gcd_pos_of_pos_left _ (Nat.pos_of_ne_zero hd0)
  have hgL : g < B ^ L := Nat.lt_of_le_of_lt (by rw [← hg]; exact Nat.gcd_le_left _ (Nat.pos_of_ne_zero hd0)) hdL
  have HGL := Hid.intro hgL
  have HG := Hid.intro hg
  rw [hg] at HFP
  clear hn hd hnL hdL hgL hg
  refine callsIn_of_wp Tryz.func130 rfl trivial ?_ rfl
  simp only [Tryz.ntmps130, List.size_toArray, List.length_cons, List.length_nil, Nat.reduceAdd, Nat.reduceSub, Array.replicate_succ, Array.replicate_zero, List.push_toArray, List.append_toArray, List.nil_append, List.cons_append]
  gi_wp2_with (gi_at_call 167; refine stop ?_)
  unfold Stop
  obtain ⟨W, hW⟩ : ∃ W, W = w.alloc (.cells #[.bool false, .slice none 0 0, .slice none 0 0] 27) := ⟨_, rfl⟩
  rw [← hW]
  have HK : Hid (Own3 w W) := by rw [hW]; exact own3_new _ _ _ _ _
  clear hW
  refine (gcd_calls W vd vn d n L (HD.out.below HK.out.2.2) (HN.out.below HK.out.2.2) HDL.out HNL.out hL).mono ?_
  rintro e w2 ⟨v7, rfl, hm, hB2⟩
  rw [HG.out] at hm
  have HK2 := Hid.intro (HK.out.step hB2)
  have HM7 := Hid.intro hm
  have HN2 := Hid.intro (HN.out.below HK2.out.2.2)
  have HD2 := Hid.intro (HD.out.below HK2.out.2.2)
  have HNF2 : Hid (n = 0 ∨ vn.ownBlock ≠ some w.heap.size) := HN.out.lt' (Nat.le_refl _)
  have HDF2 : Hid (d = 0 ∨ vd.ownBlock ≠ some w.heap.size) := HD.out.lt' (Nat.le_refl _)
  clear hm hB2 HN HD HK
  by_cases hg1 : g = 1
  case' pos =>
    have HI := Hid.intro (isOne_yes w2 v7 g HM7.out hg1)
    gi_wp2_with (gi_at_call 168; refine stop ?_)
    unfold Stop
    refine HI.out.mono ?_
    rintro e w4 ⟨rfl, hB3⟩
    have HK3 := Hid.intro (HK2.out.step hB3)
    have HN3 := Hid.intro (HN2.out.below hB3)
    have HD3 := Hid.intro (HD2.out.below hB3)
    clear hB3
    gi_wp2_with (gi_at_call 168; refine stop ?_)
    unfold Stop
    obtain ⟨n', hn'⟩ : ∃ n', n = n' := ⟨_, rfl⟩
    obtain ⟨d', hd'⟩ : ∃ d', d = d' := ⟨_, rfl⟩
    obtain ⟨vn', hvn'⟩ : ∃ vn', vn = vn' := ⟨_, rfl⟩
    obtain ⟨vd', hvd'⟩ : ∃ vd', vd = vd' := ⟨_, rfl⟩
    have hqn : n / g = n' := by rw [hg1, Nat.div_one, hn']
    have hqd : d / g = d' := by rw [hg1, Nat.div_one, hd']
    rw [hn', hvn'] at HN3 HNF2
    rw [hd', hvd'] at HD3 HDF2
    rw [hvn', hvd']
    clear hn' hd' hvn' hvd' HI HM7 HN2 HD2 HK2
  case' neg =>
    have HI := Hid.intro (isOne_no w2 v7 g HM7.out hg1)
    gi_wp2_with (gi_at_call 168; refine stop ?_)
    unfold Stop
    refine HI.out.mono ?_
    rintro e w4 ⟨rfl, hB3⟩
    have HK3 := Hid.intro (HK2.out.step hB3)
    have HN3 := Hid.intro (HN2.out.below hB3)
    have HD3 := Hid.intro (HD2.out.below hB3)
    have HM3 := Hid.intro (HM7.out.below hB3)
    clear hB3
    gi_wp2_with (gi_at_call 181; refine stop ?_)
    unfold Stop
    refine (div_calls w4 vn v7 n g L HN3.out HM3.out hg0 HNL.out HGL.out hL).mono ?_
    rintro e w5 ⟨vn', v16, rfl, ⟨hm5, hf5⟩, _, hB5⟩
    have HK5 := Hid.intro (HK3.out.step hB5)
    have HN5 := Hid.intro hm5
    have HD5 := Hid.intro (HD3.out.below hB5)
    have HM5 := Hid.intro (HM3.out.below hB5)
    have HNF5 : Hid (n / g = 0 ∨ vn'.ownBlock ≠ some w.heap.size) := hf5.ne HK3.out.2.1 _
    clear hm5 hf5 hB5 HK3 HN3 HD3 HM3 HK2 HN2 HD2 HNF2 HDF2 HM7 HI
    gi_wp2_with (gi_at_call 181; refine stop ?_)
    unfold Stop
    refine (div_calls w5 vd v7 d g L HD5.out HM5.out hg0 HDL.out HGL.out hL).mono ?_
    rintro e w6 ⟨vd', v17, rfl, ⟨hm5, hf5⟩, _, hB5⟩
    have HK3 := Hid.intro (HK5.out.step hB5)
    have HN3 := Hid.intro (HN5.out.below hB5)
    have HD3 := Hid.intro hm5
    have HNF2 := HNF5
    have HDF2 : Hid (d / g = 0 ∨ vd'.ownBlock ≠ some w.heap.size) := hf5.ne HK5.out.2.1 _
    clear hm5 hf5 hB5 HK5 HN5 HD5 HM5 HNF5
    gi_wp2_with (gi_at_call 168; refine stop ?_)
    unfold Stop
    obtain ⟨n', hqn⟩ : ∃ n', n / g = n' := ⟨_, rfl⟩
    obtain ⟨d', hqd⟩ : ∃ d', d / g = d' := ⟨_, rfl⟩
    rw [hqn] at HN3 HNF2
    rw [hqd] at HD3 HDF2
  all_goals
    rw [hqn, hqd] at HFP
    by_cases hd1 : d' = 1
    case' pos =>
      refine (isOne_yes _ vd' d' HD3.out hd1).mono ?_
      rintro e w8 ⟨rfl, hB8⟩
      have HK8 := Hid.intro (HK3.out.step hB8)
      have HN8 := Hid.intro (HN3.out.below hB8)
      have HD8 := Hid.intro (HD3.out.below hB8)
      clear hB8 HK3 HN3 HD3
      obtain ⟨x0, x1, x2, z0, z1, z2, y0, y1, y2⟩ := HK8.out.cells
      obtain ⟨o, k, c, rfl, hk, hk9⟩ := mag_len HN8.out
      have HKn := Hid.intro hk
      clear hk
      cases neg with
      | false =>
        have HS : Hid (decide ((frac false n d).num < 0) = false) := Hid.intro (by have := low_sign HFP.out hqn; simpa using this)
        clear HKn
        gi_wp2
        refine ret_rat3 rfl rfl w.heap.size rfl z0 z1 z2 ?_
        have hB := HK8.out.2.2
        refine ⟨_, rfl, ⟨.slice o k c, .slice none 0 0, ?_, ?_, ?_⟩, ((hB.setCell (Nat.le_refl _) _).setCell (Nat.le_refl _) _).setCell (Nat.le_refl _) _⟩
        · first | (rw [HS.out]; done) | (rw [HS.out]; simp; done) | (rw [HS.out]; simp; omega)
        · rw [HFP.out.1]; exact ((HN8.out.setCell' HNF2.out _).setCell' HNF2.out _).setCell' HNF2.out _
        · rw [HFP.out.2.1]; rw [hd1, if_pos rfl]; exact magAt_nil _ _ _
      | true =>
        by_cases hn0 : 0 < n'
        · have hk0 : (0 : Int) < (k : Int) := by
            rcases Nat.eq_zero_or_pos k with h | h
            · have := HKn.out.1 h; omega
            · omega
          have hk1 : decide ((0 : Int) < (k : Int)) = true := decide_eq_true hk0
          have HS : Hid (decide ((frac true n d).num < 0) = true) := Hid.intro (by have := low_sign HFP.out hqn; simpa [hn0] using this)
          clear HKn
          gi_wp2
          refine ret_rat3 rfl rfl w.heap.size rfl z0 z1 z2 ?_
          have hB := HK8.out.2.2
          refine ⟨_, rfl, ⟨.slice o k c, .slice none 0 0, ?_, ?_, ?_⟩, ((hB.setCell (Nat.le_refl _) _).setCell (Nat.le_refl _) _).setCell (Nat.le_refl _) _⟩
          · first | (rw [HS.out]; done) | (rw [HS.out]; simp; done) | (rw [HS.out]; simp; omega)
          · rw [HFP.out.1]; exact ((HN8.out.setCell' HNF2.out _).setCell' HNF2.out _).setCell' HNF2.out _
          · rw [HFP.out.2.1]; rw [hd1, if_pos rfl]; exact magAt_nil _ _ _
        · have hk0 : ¬ (0 : Int) < (k : Int) := by have := HKn.out.2 (by omega); omega
          have hk1 : decide ((0 : Int) < (k : Int)) = false := decide_eq_false hk0
          have HS : Hid (decide ((frac true n d).num < 0) = false) := Hid.intro (by have := low_sign HFP.out hqn; simpa [hn0] using this)
          clear HKn
          gi_wp2
          refine ret_rat3 rfl rfl w.heap.size rfl z0 z1 z2 ?_
          have hB := HK8.out.2.2
          refine ⟨_, rfl, ⟨.slice o k c, .slice none 0 0, ?_, ?_, ?_⟩, ((hB.setCell (Nat.le_refl _) _).setCell (Nat.le_refl _) _).setCell (Nat.le_refl _) _⟩
          · first | (rw [HS.out]; done) | (rw [HS.out]; simp; done) | (rw [HS.out]; simp; omega)
          · rw [HFP.out.1]; exact ((HN8.out.setCell' HNF2.out _).setCell' HNF2.out _).setCell' HNF2.out _
          · rw [HFP.out.2.1]; rw [hd1, if_pos rfl]; exact magAt_nil _ _ _
    case' neg =>
      refine (isOne_no _ vd' d' HD3.out hd1).mono ?_
      rintro e w8 ⟨rfl, hB8⟩
      have HK8 := Hid.intro (HK3.out.step hB8)
      have HN8 := Hid.intro (HN3.out.below hB8)
      have HD8 := Hid.intro (HD3.out.below hB8)
      clear hB8 HK3 HN3 HD3
      obtain ⟨x0, x1, x2, z0, z1, z2, y0, y1, y2⟩ := HK8.out.cells
      obtain ⟨o, k, c, rfl, hk, hk9⟩ := mag_len HN8.out
      obtain ⟨o2, k2, c2, rfl, _, _⟩ := mag_len HD8.out
      have HKn := Hid.intro hk
      clear hk
      cases neg with
      | false =>
        have HS : Hid (decide ((frac false n d).num < 0) = false) := Hid.intro (by have := low_sign HFP.out hqn; simpa using this)
        clear HKn
        gi_wp2
        refine ret_rat3 rfl rfl w.heap.size rfl z0 z1 z2 ?_
        have hB := HK8.out.2.2
        refine ⟨_, rfl, ⟨.slice o k c, .slice o2 k2 c2, ?_, ?_, ?_⟩, ((hB.setCell (Nat.le_refl _) _).setCell (Nat.le_refl _) _).setCell (Nat.le_refl _) _⟩
        · first | (rw [HS.out]; done) | (rw [HS.out]; simp; done) | (rw [HS.out]; simp; omega)
        · rw [HFP.out.1]; exact ((HN8.out.setCell' HNF2.out _).setCell' HNF2.out _).setCell' HNF2.out _
        · rw [HFP.out.2.1]; rw [if_neg hd1]; exact ((HD8.out.setCell' HDF2.out _).setCell' HDF2.out _).setCell' HDF2.out _
      | true =>
        by_cases hn0 : 0 < n'
        · have hk0 : (0 : Int) < (k : Int) := by
            rcases Nat.eq_zero_or_pos k with h | h
            · have := HKn.out.1 h; omega
            · omega
          have hk1 : decide ((0 : Int) < (k : Int)) = true := decide_eq_true hk0
          have HS : Hid (decide ((frac true n d).num < 0) = true) := Hid.intro (by have := low_sign HFP.out hqn; simpa [hn0] using this)
          clear HKn
          gi_wp2
          refine ret_rat3 rfl rfl w.heap.size rfl z0 z1 z2 ?_
          have hB := HK8.out.2.2
          refine ⟨_, rfl, ⟨.slice o k c, .slice o2 k2 c2, ?_, ?_, ?_⟩, ((hB.setCell (Nat.le_refl _) _).setCell (Nat.le_refl _) _).setCell (Nat.le_refl _) _⟩
          · first | (rw [HS.out]; done) | (rw [HS.out]; simp; done) | (rw [HS.out]; simp; omega)
          · rw [HFP.out.1]; exact ((HN8.out.setCell' HNF2.out _).setCell' HNF2.out _).setCell' HNF2.out _
          · rw [HFP.out.2.1]; rw [if_neg hd1]; exact ((HD8.out.setCell' HDF2.out _).setCell' HDF2.out _).setCell' HDF2.out _
        · have hk0 : ¬ (0 : Int) < (k : Int) := by have := HKn.out.2 (by omega); omega
          have hk1 : decide ((0 : Int) < (k : Int)) = false := decide_eq_false hk0
          have HS : Hid (decide ((frac true n d).num < 0) = false) := Hid.intro (by have := low_sign HFP.out hqn; simpa [hn0] using this)
          clear HKn
          gi_wp2
          refine ret_rat3 rfl rfl w.heap.size rfl z0 z1 z2 ?_
          have hB := HK8.out.2.2
          refine ⟨_, rfl, ⟨.slice o k c, .slice o2 k2 c2, ?_, ?_, ?_⟩, ((hB.setCell (Nat.le_refl _) _).setCell (Nat.le_refl _) _).setCell (Nat.le_refl _) _⟩
          · first | (rw [HS.out]; done) | (rw [HS.out]; simp; done) | (rw [HS.out]; simp; omega)
          · rw [HFP.out.1]; exact ((HN8.out.setCell' HNF2.out _).setCell' HNF2.out _).setCell' HNF2.out _
          · rw [HFP.out.2.1]; rw [if_neg hd1]; exact ((HD8.out.setCell' HDF2.out _).setCell' HDF2.out _).setCell' HDF2.out _

/-- One limb of a quotient. -/
theorem quo_limb {A c m : Nat} (hc : 0 < c) : limb (A / c) m = ((A / B ^ (m + 1) % c) * B + limb A m) / c ∧ ((A / B ^ (m + 1) % c) * B + limb A m) / c < B := by
  have h := rest_step A c m
  have hlt : ((A / B ^ (m + 1) % c) * B + limb A m) / c < B := by
    refine Nat.div_lt_of_lt_mul ?_
    have h1 := Nat.mod_lt (A / B ^ (m + 1)) hc
    have h2 := limb_lt A m
    have h3 : (A / B ^ (m + 1) % c + 1) * B ≤ c * B := Nat.mul_le_mul_right _ h1
    rw [Nat.add_mul, Nat.one_mul] at h3
    omega
  refine ⟨?_, hlt⟩
  have e : limb (A / c) m = A / B ^ m / c % B := by
    unfold limb
    rw [Nat.div_div_eq_div_mul, Nat.div_div_eq_div_mul, Nat.mul_comm]
  rw [e, ← h.2, Nat.mul_comm, Nat.mul_add_mod, Nat.mod_eq_of_lt hlt]
theorem limb_cons_zero {R z : Nat} (hz : z < B) : limb (R * B + z) 0 = z := by
  unfold limb
  rw [Nat.pow_zero, Nat.div_one, Nat.mul_comm, Nat.mul_add_mod, Nat.mod_eq_of_lt hz]
theorem limb_cons_succ {R z i : Nat} (hz : z < B) : limb (R * B + z) (i + 1) = limb R i := by
  unfold limb
  rw [Nat.pow_succ, Nat.mul_comm (B ^ i) B, ← Nat.div_div_eq_div_mul]
  congr 2
  rw [Nat.mul_comm, Nat.mul_add_div B_pos, Nat.div_eq_of_lt hz, Nat.add_zero]
theorem firstI_cons {R z k : Nat} (hz : z < B) : Value.int .i64 (z : Int) :: firstI R k = firstI (R * B + z) (k + 1) := by
  apply List.ext_getElem?
  intro i
  cases i with
  | zero => simp [firstI, limb_cons_zero hz, List.range_succ_eq_map]
  | succ i => simp only [List.getElem?_cons_succ, firstI, List.getElem?_map, List.range_succ_eq_map, List.map_map, List.map_cons]; simp [Function.comp_def, limb_cons_succ hz]
theorem cons_lt {R z c : Nat} (hz : z < B) (hR : R < c) : R * B + z < c * B := by
  have h3 : (R + 1) * B ≤ c * B := Nat.mul_le_mul_right _ hR
  rw [Nat.add_mul, Nat.one_mul] at h3
  omega
theorem cons_lt_pow {R z k : Nat} (hz : z < B) (hR : R < B ^ k) : R * B + z < B ^ (1 + k) := by
  rw [Nat.add_comm 1 k, Nat.pow_succ]
  exact cons_lt hz hR

/-- 'min' of two numbers. -/
theorem wpListIn_min {F : Fence} {n : Nat} {P : Program} {w : World} {ops : Array Oper} {rest : List Oper} {o : Oper} {a : Act} {Q : Exit → Act → World → Prop}
    (hg : o.guard = none) (x y : Operand) (ts : Array TypeId) (hop : o.op = Op.call { callee := Callee.builtin Builtin.min, args := #[x, y], argTypes := ts }) (k : IntKind) (X Y Z : Int) (hx : a.eval x = .int k X) (hy : a.eval y = .int k Y) (hz : (if Y < X then Y else X) = Z)
    (h : wpListIn F n P ops Q rest (a.put o.dst (.int k Z)) w) : wpListIn F n P ops Q (o :: rest) a w := by
  refine wpListIn_plain hg fun K hK => ?_
  unfold Oper.wpIn
  refine ⟨by simp [Oper.about, hop, resolve, Target.leads, Sem.run_pure], ?_⟩
  rw [Oper.semAt_plain F _ _ (by rw [hop]; intro c hc'; cases hc')]
  simp [execOp, hop, resolve, invoke, builtin, Builtin.min_, Builtin.min2, hx, hy, Sem.run_pure, hz]
  exact hK _ _ h
theorem wpListIn_max {F : Fence} {n : Nat} {P : Program} {w : World} {ops : Array Oper} {rest : List Oper} {o : Oper} {a : Act} {Q : Exit → Act → World → Prop}
    (hg : o.guard = none) (x y : Operand) (ts : Array TypeId) (hop : o.op = Op.call { callee := Callee.builtin Builtin.max, args := #[x, y], argTypes := ts }) (k : IntKind) (X Y Z : Int) (hx : a.eval x = .int k X) (hy : a.eval y = .int k Y) (hz : (if Y > X then Y else X) = Z)
    (h : wpListIn F n P ops Q rest (a.put o.dst (.int k Z)) w) : wpListIn F n P ops Q (o :: rest) a w := by
  refine wpListIn_plain hg fun K hK => ?_
  unfold Oper.wpIn
  refine ⟨by simp [Oper.about, hop, resolve, Target.leads, Sem.run_pure], ?_⟩
  rw [Oper.semAt_plain F _ _ (by rw [hop]; intro c hc'; cases hc')]
  simp [execOp, hop, resolve, invoke, builtin, Builtin.max_, Builtin.max2, hx, hy, Sem.run_pure, hz]
  exact hK _ _ h

theorem stop_min {F : Fence} {n : Nat} {P : Program} {w : World} {ops : Array Oper} {rest : List Oper} {a : Act} {Q : Exit → Act → World → Prop} {dst : Option Tmp} {ty : TypeId} {ps : String} {af : Array Edge} {gd : Option (Nat × Bool)} {xs : Array Operand} {ts : Array TypeId}
    (h : Stop (wpListIn F n P ops Q ({ dst := dst, op := Op.call { callee := Callee.builtin Builtin.min, args := xs, argTypes := ts }, type := ty, pos := ps, after := af, guard := gd } :: rest) a w)) :
    wpListIn F n P ops Q ({ dst := dst, op := Op.call { callee := Callee.builtin Builtin.min, args := xs, argTypes := ts }, type := ty, pos := ps, after := af, guard := gd } :: rest) a w := h

theorem wrap64_small {x : Nat} (h : x < 9223372036854775808) : wrap64 (x : Int) = (x : Int) := by
  unfold wrap64
  omega

/-- What stands through a division. -/
structure DivI (w0 wr : World) (vx vr vy : Value) (A R c g n : Nat) (f : Nat → Value) : Prop where
  num : NatI wr vx A
  numNe : A = 0 ∨ vx.ownBlock ≠ some g
  rest : NatI wr vr R
  restNe : R = 0 ∨ vr.ownBlock ≠ some g
  div : NatI wr vy c
  divNe : c = 0 ∨ vy.ownBlock ≠ some g
  arr : ArrAt wr g n f
  el : Elem wr g 3
  lt : g < wr.heap.size
  below : Below w0.heap.size w0 wr
theorem DivI.step {w0 wr w' : World} {vx vr vy : Value} {A R c g n : Nat} {f : Nat → Value} (h : DivI w0 wr vx vr vy A R c g n f) (hb : Below wr.heap.size wr w') : DivI w0 w' vx vr vy A R c g n f :=
  ⟨h.num.below hb, h.numNe, h.rest.below hb, h.restNe, h.div.below hb, h.divNe, h.arr.below h.lt hb, h.el.below hb h.lt, Nat.lt_of_lt_of_le h.lt hb.size, h.below.trans (hb.mono h.below.size)⟩
theorem DivI.with {w0 wr : World} {vx vr vy vr' : Value} {A R c g n R' : Nat} {f : Nat → Value} (h : DivI w0 wr vx vr vy A R c g n f) (h1 : NatI wr vr' R') (h2 : R' = 0 ∨ vr'.ownBlock ≠ some g) : DivI w0 wr vx vr' vy A R' c g n f :=
  ⟨h.num, h.numNe, h1, h2, h.div, h.divNe, h.arr, h.el, h.lt, h.below⟩
theorem NatI.setCell' {w : World} {v : Value} {x g i : Nat} (h : NatI w v x) (hne : x = 0 ∨ v.ownBlock ≠ some g) (u : Value) : NatI (w.setCell ⟨g, i, none⟩ u) v x := by
  rcases hne with rfl | hne
  · obtain ⟨k, hk, hl⟩ := h
    have hk0 : k = 0 := hk.unique lenIs_zero
    subst hk0
    rcases hl with h | ⟨a, cap, rfl, h2, _⟩
    · exact ⟨0, hk, .inl h⟩
    · omega
  · exact h.setCell hne u
theorem DivI.set {w0 wr : World} {vx vr vy : Value} {A R c g n : Nat} {f : Nat → Value} (h : DivI w0 wr vx vr vy A R c g n f) {i : Nat} (hi : i < n) (hg : w0.heap.size ≤ g) (u : Value) {f' : Nat → Value} (hf : ∀ j, j < n → (if j = i then u else f j) = f' j) : DivI w0 (wr.setCell ⟨g, i, none⟩ u) vx vr vy A R c g n f' :=
  ⟨h.num.setCell' h.numNe u, h.numNe, h.rest.setCell' h.restNe u, h.restNe, h.div.setCell' h.divNe u, h.divNe, ArrAt.congr (h.arr.set hi u) hf, h.el.setCell _ _, by rw [show (wr.setCell ⟨g, i, none⟩ u).heap.size = wr.heap.size by simp [World.setCell]]; exact h.lt, h.below.setCell hg _⟩
theorem NatI.lt' {w : World} {v : Value} {x : Nat} (h : NatI w v x) {g : Nat} (hg : w.heap.size ≤ g) : x = 0 ∨ v.ownBlock ≠ some g := by
  rcases Nat.eq_zero_or_pos x with h0 | h0
  · exact .inl h0
  · exact .inr (h.lt h0 g hg)
theorem Fresh.ne' {b g : Nat} {v : Value} (h : Fresh b v) (hg : g < b) (x : Nat) : x = 0 ∨ v.ownBlock ≠ some g := .inr fun e => by have := h _ e; omega

/-- A guess of one limb of a quotient, not too great, and at least 1. -/
theorem guess_ok {T c l top h n : Nat} (hc : 0 < c) (hT : c ≤ T) (htop : limb c l = top) (hcl : c < B ^ (l + 1)) (hh : T / B ^ l = h) (hn : n = max 1 (min 999999999 (h / (top + 1)))) : 1 ≤ n ∧ n ≤ 999999999 ∧ n * c ≤ T := by
  refine ⟨by omega, by omega, ?_⟩
  have hct : c < (top + 1) * B ^ (l + 1 - 1) := by
    have h1 := low_succ c l
    rw [low_high hcl, htop] at h1
    have h2 := low_lt c l
    rw [Nat.add_sub_cancel, Nat.add_mul, Nat.one_mul, Nat.mul_comm top]
    omega
  have hg := guess_le (R := T) hc hct
  rw [Nat.add_sub_cancel, hh] at hg
  rcases Nat.eq_zero_or_pos (h / (top + 1)) with h0 | h0
  · have : n = 1 := by omega
    subst this; omega
  · exact Nat.le_trans (Nat.mul_le_mul_right c (by omega)) hg

/-- A limb is put ahead of a number. -/
theorem append_cons {F : Fence} {n : Nat} (wr : World) {ops : Array Oper} {rest : List Oper} {o : Oper} {a : Act} {Q : Exit → Act → World → Prop}
    (hg : o.guard = none) (s x : Operand) (hop : o.op = Op.call { callee := Callee.builtin Builtin.append, args := #[s, x], argTypes := #[58, 58] })
    (z R k : Nat) (hz : z < B) (hs : a.eval s = .slice (some ⟨wr.heap.size, 0, none⟩) 1 1) (vr : Value) (hx : a.eval x = vr) (hR : LimbsI wr vr R k) (hk : k ≤ 400000000) (zz : Int) (hzz : zz = (z : Int))
    (hK : ∀ v' w', LimbsI w' v' (R * B + z) (1 + k) → Fresh wr.heap.size v' → Below wr.heap.size wr w' → wpListIn F n Tryz.prog ops Q rest (a.put o.dst v') w') :
    wpListIn F n Tryz.prog ops Q (o :: rest) a (wr.alloc (.cells #[.int .i64 zz] 3)) := by
  subst hzz
  obtain ⟨W, hW⟩ : ∃ W, W = wr.alloc (.cells #[.int .i64 (z : Int)] 3) := ⟨_, rfl⟩
  have hb : Below wr.heap.size wr W := by rw [hW]; exact alloc_below _ _
  have hown : W.ownsRow wr.heap.size 3 1 (.slice (some ⟨wr.heap.size, 0, none⟩) 1 1) 1 [.int .i64 (z : Int)] := by rw [hW]; exact World.ownsRow_lit wr #[.int .i64 (z : Int)] 1 (Nat.le_refl _) (by unfold maxLen; omega) (by simp)
  have h0 : [Value.int .i64 (z : Int)] = firstI (R * B + z) 1 := firstI_cons (k := 0) hz
  rw [← hW]
  rcases Nat.eq_zero_or_pos k with hk0 | hk0
  · subst hk0
    obtain ⟨o1, c1, rfl, _⟩ := hR.form
    refine wpListIn_append_nothing _ hg _ _ _ hop _ Tryz.t3 Go.Num.u30 t3_info wr.heap.size 0 1 1 (Nat.le_refl _) hs o1 c1 hx ?_
    rw [h0] at hown
    exact hK _ _ (rowI_limbs hown (by omega)) (fun k hk => by have q : wr.heap.size = k := (by simpa [Value.ownBlock] using hk); omega) hb
  · obtain ⟨o1, c1, rfl, h1⟩ := hR.form
    obtain ⟨a1, rfl, ha1, hc1⟩ := h1 hk0
    refine wpListIn_append_own _ hg s x 58 hop wr.heap.size 3 Tryz.t3 _ 1 8 Go.Num.u30 t3_info t3_zero t3_size t3_bytes rfl (by decide) _ 1 _ hs hown a1 k c1 (firstI R k) hx (by simp [firstI]) ?_ ?_ (by unfold maxLen; omega) (by omega) hb.size ?_
    · intro j u hu
      have hj : j < k := by
        have := (List.getElem?_eq_some_iff.1 hu).1
        simpa [firstI] using this
      rw [hb.cell (p := a1.add j) (by rw [add_block]; exact ha1), hc1 j hj, ← hu]
      simp [firstI, hj]
    · intro u hu
      unfold firstI at hu
      obtain ⟨i, _, rfl⟩ := List.mem_map.1 hu
      rfl
    · intro v' w' h1 h2 _
      have e : [Value.int .i64 (z : Int)] ++ firstI R k = firstI (R * B + z) (1 + k) := by rw [Nat.add_comm 1 k, ← firstI_cons hz]; rfl
      rw [e] at h1
      exact hK v' w' (rowI_limbs h1 (by omega)) (fun k hk => own_base h1 hk) (hb.grown h2 hb.size fun k hk => own_base hown hk)

theorem timesN_calls' (w : World) (va : Value) (x c L : Nat) (ha : NatI w va x) (hx : x < B ^ L) (hL : L ≤ 100000000) (hc : c < B) (z : Int) (hz : z = (c : Int)) :
    CallsIn Fence.wide 0 Tryz.prog 220 #[va, .int .i64 z] w fun e w' => ∃ v', e = .returned v' ∧ (NatI w' v' (x * c) ∧ Fresh w.heap.size v') ∧ Below w.heap.size w w' := by
  subst hz
  exact timesN_calls w va x c L ha hx hL hc

set_option maxRecDepth 100000 in
set_option maxHeartbeats 16000000 in
/-- **'DivN'.** -/
theorem divN_fresh (w : World) (va vb : Value) (x y L : Nat) (ha : NatI w va x) (hb : NatI w vb y) (hy : 0 < y) (hx : x < B ^ L) (hyL : y < B ^ L) (hL : L ≤ 10000000) :
    CallsIn Fence.wide 0 Tryz.prog 197 #[va, vb] w fun e w' => ∃ vq vr, e = .returned (.tuple #[vq, vr]) ∧ (NatI w' vq (x / y) ∧ Fresh w.heap.size vq) ∧ NatI w' vr (x % y) ∧ Below w.heap.size w w' := by
  have HA := Hid.intro ha
  have HB := Hid.intro hb
  have HX := Hid.intro hx
  have HY := Hid.intro hyL
  clear hx hyL
  obtain ⟨l, hl⟩ : ∃ l, LenIs y (l + 1) := by
    obtain ⟨k, hk, _⟩ := hb
    rcases Nat.eq_zero_or_pos k with h | h
    · subst h; exact absurd hk.zero (by omega)
    · exact ⟨k - 1, by rw [Nat.sub_add_cancel h]; exact hk⟩
  have hlb := hb.limbs hl
  have hlL := hl.le HY.out
  have tg := top_great hl
  have ht := hl.top
  have htB := limb_lt y l
  obtain ⟨o2, c2, rfl, h2⟩ := hlb.form
  obtain ⟨a2, rfl, ha2, hc2⟩ := h2 (by omega)
  have hc0 := hc2 l (by omega)
  obtain ⟨t, hts⟩ : ∃ t, limb y l = t := ⟨_, rfl⟩
  rw [hts] at tg ht htB hc0
  obtain ⟨d, hd⟩ : ∃ d, B / (t + 1) = d := ⟨_, rfl⟩
  have ed : (1000000000 : Int) / ((t : Int) + 1) = (d : Int) := by rw [← hd]; simp [B]
  have ed2 : Int.tdiv (1000000000 : Int) ((t : Int) + 1) = (d : Int) := by rw [← hd]; rfl
  rw [hd] at tg
  have hBB : B = 1000000000 := rfl
  have hd0 := tg.2.1
  have hdB := tg.2.2.1
  rw [hBB] at htB
  obtain ⟨c, hcc⟩ : ∃ c, y * d = c := ⟨_, rfl⟩
  obtain ⟨A, hAA⟩ : ∃ A, x * d = A := ⟨_, rfl⟩
  have hsc : A / c = x / y ∧ A % c / d = x % y := by rw [← hcc, ← hAA]; exact scale_div hd0
  rw [hcc] at tg
  have HTG := Hid.intro tg
  have HSC := Hid.intro hsc
  have HCC := Hid.intro hcc
  have HAA := Hid.intro hAA
  have hcpos : 0 < c := by rw [← hcc]; exact Nat.mul_pos hy hd0
  have hAL : A < B ^ (L + 1) := by rw [← hAA]; exact prod_len HX.out (by rw [Nat.pow_one]; exact hdB)
  have hcL : c < B ^ (L + 1) := Nat.lt_of_lt_of_le tg.1.1 (pow_mono (by omega))
  have HAL := Hid.intro hAL
  have HCL := Hid.intro hcL
  have HT0 := Hid.intro (timesN_calls w va x d L ha HX.out (by omega) hdB)
  have HT1 := fun (w1 : World) (h : Below w.heap.size w w1) => Hid.intro (timesN_calls w1 _ y d L (hb.below h) HY.out (by omega) hdB)
  clear hts hd hcc hAA hsc tg hlb hl hc2 h2 hAL hcL ha hb
  refine callsIn_of_wp Tryz.func197 rfl trivial ?_ rfl
  simp only [Tryz.ntmps197, List.size_toArray, List.length_cons, List.length_nil, Nat.reduceAdd, Nat.reduceSub, Array.replicate_succ, Array.replicate_zero, List.push_toArray, List.append_toArray, List.nil_append, List.cons_append]
  gi_wp2_with (gi_at_call 220; refine stop ?_)
  unfold Stop
  refine HT0.out.mono ?_
  rintro e w1 ⟨v7, rfl, ⟨hm, _⟩, hB1⟩
  rw [HAA.out] at hm
  have HM7 := Hid.intro hm
  have HB1 := Hid.intro hB1
  clear hm hB1 HT0
  gi_wp2_with (gi_at_call 220; refine stop ?_)
  unfold Stop
  refine (HT1 w1 HB1.out).out.mono ?_
  rintro e w2 ⟨v8, rfl, ⟨hm, _⟩, hB2⟩
  rw [HCC.out] at hm
  have hm2 := hm.limbs HTG.out.1
  obtain ⟨o8, c8, rfl, h8⟩ := hm2.form
  obtain ⟨a8, rfl, ha8, hc8⟩ := h8 (by omega)
  have hct := hc8 l (by omega)
  have HMC := Hid.intro hm
  obtain ⟨kA, hkA, hlA⟩ := HM7.out.below hB2
  obtain ⟨o7, c7, rfl, h7⟩ := hlA.form
  have hkAL := hkA.le HAL.out
  have HKA := Hid.intro hkA
  have HM72 := Hid.intro (HM7.out.below hB2)
  have HB2 := Hid.intro (HB1.out.trans (hB2.mono HB1.out.size))
  obtain ⟨top, htop⟩ : ∃ top, limb c l = top := ⟨_, rfl⟩
  rw [htop] at hct
  have HTOP := Hid.intro htop
  have htopB : top < 1000000000 := by rw [← htop]; exact limb_lt c l
  clear hm hB2 hm2 h8 hc8 hkA hlA h7 HM7 htop ed ed2 hc0 HT1
  gi_wp2_with (gi_at_make; refine stop ?_)
  unfold Stop
  obtain ⟨hi, hhi⟩ : ∃ hi, top + 1 = hi := ⟨_, rfl⟩
  rw [show ((top : Int) + 1) = (hi : Int) by omega]
  have HHI := Hid.intro hhi.symm
  refine wpListIn_make_full _ rfl _ _ _ rfl w2.heap.size 3 Tryz.t3 _ 1 Go.Num.u30 t3_info t3_zero t3_size _ _ _ _ kA rfl rfl (by omega) (by omega) (by rw [t3_bytes]; omega) (by unfold maxLen; omega) (Nat.le_refl _) ?_
  intro W4 hown hgrow
  obtain ⟨g, hg'⟩ : ∃ g, w2.heap.size = g := ⟨_, rfl⟩
  have hB34 : Below w2.heap.size w2 W4 := (Below.refl _ w2).grown hgrow (Nat.le_refl _) (fun _ h => by cases h)
  have hE4 : Elem W4 g 3 := by rw [← hg']; exact elem_of_row hown
  have HK4 : Hid (DivI w W4 (.slice o7 kA c7) (.slice none 0 0) (.slice (some a8) (l + 1) c8) A 0 c g kA fun i => .int .i64 ((topL (A / c) kA i : Nat) : Int)) := by
    refine ⟨HM72.out.below hB34, HM72.out.lt' (by omega), natI_nil _ _ _, .inl rfl, HMC.out.below hB34, HMC.out.lt' (by omega), ?_, hE4, hE4.lt, HB2.out.trans (hB34.mono HB2.out.size)⟩
    rw [← hg']
    exact ArrAt.of_row hown fun i hi => by unfold topL; rw [if_neg (by omega)]; exact made_limbsI (by omega)
  have hg : w.heap.size ≤ g := by have := HB2.out.size; omega
  rw [hg']
  clear hown hgrow hg' hB34 HM72 HMC hct hE4 HB2
  gi_wp2
  gi_loopw [11, 12] (fun v11 iv wr => ∃ (i0 : Int) (R : Nat), -1 ≤ i0 ∧ i0 < kA ∧ iv = .int .i64 i0 ∧ Hid (A / B ^ (i0 + 1).toNat % c = R) ∧ Hid (DivI w wr (.slice o7 kA c7) v11 (.slice (some a8) (l + 1) c8) A R c g kA fun j => .int .i64 ((topL (A / c) (i0 + 1).toNat j : Nat) : Int))) (fun _ iv _ => (intOf iv + 1).toNat)
  case atStart =>
    refine ⟨(kA : Int) - 1, 0, by omega, by omega, (by first | rfl | (congr 1; omega)), ?_, ?_⟩
    · rw [show ((kA : Int) - 1 + 1).toNat = kA by omega, Nat.div_eq_of_lt HKA.out.1]
      exact Nat.zero_mod _
    · rw [show ((kA : Int) - 1 + 1).toNat = kA by omega]
      exact HK4.out
  case round =>
    obtain ⟨i0, R, hi1, hi2, rfl, HRE, HK⟩ := hrel
    clear HK4
    by_cases h0 : 0 ≤ i0
    · obtain ⟨m, rfl⟩ : ∃ m : Nat, i0 = (m : Int) := ⟨i0.toNat, by omega⟩
      rw [show ((m : Int) + 1).toNat = m + 1 by omega] at HRE HK
      have hmk : m < kA := by omega
      obtain ⟨o7', c7', e7, h7⟩ := (HK.out.num.limbs HKA.out).form
      injection e7 with e7 e7' e7''
      subst e7
      subst e7''
      obtain ⟨a7, rfl, ha7, hc7⟩ := h7 (by omega)
      have p7 := hc7 m hmk
      obtain ⟨z, hz⟩ : ∃ z, limb A m = z := ⟨_, rfl⟩
      have hzB : z < B := by rw [← hz]; exact limb_lt A m
      rw [hz] at p7
      have hRc : R < c := by rw [← HRE.out]; exact Nat.mod_lt _ hcpos
      obtain ⟨kr, hkr, hlr⟩ := HK.out.rest
      have hkrL : kr ≤ L + 1 := hkr.le (Nat.lt_trans hRc HCL.out)
      have HLR := Hid.intro hlr
      have HKR := Hid.intro hkr
      have HZ := Hid.intro hz
      clear hc7 h7 hlr hkr hz
      gi_wp2_with (gi_at_builtin; refine stop ?_)
      unfold Stop
      refine append_cons wr rfl _ _ rfl z R kr hzB rfl u11 rfl HLR.out (by omega) _ rfl ?_
      intro v5 w5 hl5 hf5 hb5
      have HT := Hid.intro (rtrim_calls w5 v5 (R * B + z) (1 + kr) hl5 (cons_lt_pow hzB HKR.out.1))
      have HF5 := Hid.intro hf5
      have HB5 := Hid.intro hb5
      clear hl5 hf5 hb5
      gi_wp2_with (gi_at_call 198; refine stop ?_)
      unfold Stop
      refine HT.out.mono ?_
      rintro e w6 ⟨v6, rfl, ⟨hm6, hf6⟩, hb6⟩
      obtain ⟨S, hS⟩ : ∃ S, R * B + z = S := ⟨_, rfl⟩
      have hSc : S < c * B := by rw [← hS]; exact cons_lt hzB hRc
      rw [hS] at hm6
      have HS := Hid.intro hS
      have HK6 : Hid (DivI w w6 (.slice (some a7) kA c7) v6 (.slice (some a8) (l + 1) c8) A S c g kA fun j => .int .i64 (((if j = m then 0 else topL (A / c) (m + 1) j) : Nat) : Int)) := by
        have h6 := (HK.out.step (HB5.out.trans (hb6.mono HB5.out.size))).with hm6 (Fresh.ne' (b := wr.heap.size) (fun k hk => HF5.out k (hf6 ▸ hk)) HK.out.lt S)
        refine ⟨h6.num, h6.numNe, h6.rest, h6.restNe, h6.div, h6.divNe, ArrAt.congr h6.arr fun j _ => ?_, h6.el, h6.lt, h6.below⟩
        by_cases e : j = m
        · subst e; rw [if_pos rfl]; unfold topL; rw [if_neg (by omega)]
        · rw [if_neg e]
      clear hm6 hf6 hb6 hS HT HF5 HB5 HLR HKR p7
      gi_wp2
      gi_loopw [11] (fun v11 wr => ∃ (T t : Nat), Hid (T + t * c = S) ∧ Hid (DivI w wr (.slice (some a7) kA c7) v11 (.slice (some a8) (l + 1) c8) A T c g kA fun j => .int .i64 (((if j = m then t else topL (A / c) (m + 1) j) : Nat) : Int))) (fun v11 wr => natNum wr v11)
      case atStart => exact ⟨S, 0, Hid.intro (by omega), HK6.out⟩
      case round =>
        obtain ⟨T, t, HTt, HK7⟩ := hrel
        clear HK6
        obtain ⟨kT, hkT, hlT⟩ := HK7.out.rest
        obtain ⟨o11, c11, rfl, _⟩ := hlT.form
        have hkT9 := hlT.small
        have HKT := Hid.intro hkT
        have HTc := Hid.intro (cmpN_calls wr _ _ T c HK7.out.rest HK7.out.div)
        clear hkT hlT
        by_cases hTc : T < c
        · have hq : cmpI T c = -1 := cmpI_lt hTc
          rw [hq] at HTc
          gi_wp2_with (gi_at_call 200; refine HTc.out.mono ?_; rintro e w8 ⟨rfl, hb8⟩; have HB8 := Hid.intro hb8; clear hb8)
          have hTS : S % c = T ∧ S / c = t := by
            rw [← HTt.out]
            exact ⟨by rw [Nat.add_mul_mod_self_right, Nat.mod_eq_of_lt hTc], by rw [Nat.add_mul_div_right _ _ hcpos, Nat.div_eq_of_lt hTc, Nat.zero_add]⟩
          have hrs := (rest_step A c m).1
          have hql := (quo_limb (A := A) (m := m) hcpos).1
          rw [HRE.out, HZ.out, HS.out] at hrs hql
          refine ⟨⟨(m : Int) - 1, T, by omega, by omega, by go_num, ?_, ?_⟩, by simp [intOf]⟩
          · rw [show ((m : Int) - 1 + 1).toNat = m by omega]
            exact Hid.intro (by rw [← hrs, hTS.1])
          · rw [show ((m : Int) - 1 + 1).toNat = m by omega]
            have h8 := HK7.out.step HB8.out
            refine Hid.intro ⟨h8.num, h8.numNe, h8.rest, h8.restNe, h8.div, h8.divNe, ArrAt.congr h8.arr fun j _ => ?_, h8.el, h8.lt, h8.below⟩
            by_cases e : j = m
            · rw [if_pos e, e]; unfold topL; rw [if_pos (Nat.le_refl _), hql, hTS.2]
            · rw [if_neg e]; unfold topL
              by_cases e2 : m + 1 ≤ j
              · rw [if_pos e2, if_pos (by omega)]
              · rw [if_neg e2, if_neg (by omega)]
        · obtain ⟨q, hq⟩ : ∃ q, cmpI T c = q := ⟨_, rfl⟩
          have hq0 : 0 ≤ q := by
            rw [← hq]; unfold cmpI; rw [if_neg hTc]; split <;> omega
          rw [hq] at HTc
          have HK8 : ∀ w8, Below wr.heap.size wr w8 → Hid (DivI w w8 (.slice (some a7) kA c7) (.slice o11 kT c11) (.slice (some a8) (l + 1) c8) A T c g kA fun j => .int .i64 (((if j = m then t else topL (A / c) (m + 1) j) : Nat) : Int)) := fun w8 h => HK7.out.step h
          have hSle : T ≤ S := by have := HTt.out; omega
          have hTB : T < c * B := Nat.lt_of_le_of_lt hSle hSc
          have hTp : T < B ^ (l + 2) := by
            have h1 : c * B ≤ B ^ (l + 1) * B := Nat.mul_le_mul_right _ (Nat.le_of_lt HTG.out.1.1)
            rw [show B ^ (l + 1) * B = B ^ (l + 2) from (Nat.pow_succ _ _).symm] at h1
            omega
          have hkT2 : kT ≤ l + 2 := HKT.out.le hTp
          have hkT1 : l + 1 ≤ kT := by
            apply Classical.byContradiction
            intro hno
            have := cmp_len HKT.out HTG.out.1 (by omega)
            omega
          have HTP := Hid.intro hTp
          have HTB := Hid.intro hTB
          clear hTp hTB
          gi_wp2_with (gi_at_call 200; refine HTc.out.mono ?_; rintro e w8 ⟨rfl, hb8⟩; have HK8 := HK8 w8 hb8; clear hb8)
          obtain ⟨w9, hw9⟩ : ∃ w9, w9 = w8 := ⟨_, rfl⟩
          rw [← hw9]
          rw [← hw9] at HK8
          have HNUM := Hid.intro HK7.out.rest.num
          clear hw9 HK7 HTc
          gi_loopw [14, 15] (fun hv kv wr => ∃ p h : Nat, l ≤ p ∧ p ≤ kT ∧ kv = .int .i64 ((p : Int) - 1) ∧ hv = .int .i64 (h : Int) ∧ Hid (T / B ^ p = h) ∧ wr = w9) (fun _ kv _ => (intOf kv + 1).toNat)
          case atStart => exact ⟨kT, 0, by omega, Nat.le_refl _, (by first | rfl | go_num), rfl, Nat.div_eq_of_lt HKT.out.1, rfl⟩
          case round =>
            obtain ⟨p, hv0, hp1, hp2, rfl, rfl, HH, rfl⟩ := hrel
            by_cases hpm : l + 1 ≤ p
            · obtain ⟨p', rfl⟩ : ∃ p', p = p' + 1 := ⟨p - 1, by omega⟩
              have hhB : hv0 < 1000000000 := by
                rw [← HH.out]
                refine Nat.div_lt_of_lt_mul ?_
                have h1 : B ^ (l + 2) ≤ B ^ (p' + 1 + 1) := pow_mono (by omega)
                rw [Nat.pow_succ B (p' + 1)] at h1
                exact Nat.lt_of_lt_of_le HTP.out h1
              have ds : T / B ^ p' = 1000000000 * hv0 + limb T p' := by rw [div_step T p', HH.out]; rfl
              obtain ⟨o', c', e', h11⟩ := (HK8.out.rest.limbs HKT.out).form
              injection e' with e1 e2 e3
              subst e1
              subst e3
              obtain ⟨a11, rfl, ha11, hc11⟩ := h11 (by omega)
              have p11 := hc11 p' (by omega)
              obtain ⟨lr, hlr⟩ : ∃ lr, limb T p' = lr := ⟨_, rfl⟩
              have hlB : lr < 1000000000 := by rw [← hlr]; exact limb_lt T p'
              rw [hlr] at p11 ds
              have HDS := Hid.intro ds
              clear hc11 hlr ds h11
              gi_wp2
              exact ⟨⟨p', 1000000000 * hv0 + lr, by omega, by omega, by go_num, congrArg (Value.int .i64) (by omega), HDS.out, by first | trivial | rfl⟩, by first | (simp [intOf]; done) | (simp [intOf]; omega)⟩
            · have hpm0 : l = p := by omega
              subst hpm0
              have htop0 : ¬ (hi : Int) = 0 := by omega
              clear hhi
              gi_wp2_with (with_reducible refine stop_min ?_)
              unfold Stop
              obtain ⟨N, hN⟩ : ∃ N, max 1 (min 999999999 (hv0 / hi)) = N := ⟨_, rfl⟩
              obtain ⟨M, hM⟩ : ∃ M, min 999999999 (hv0 / hi) = M := ⟨_, rfl⟩
              have htop1 : ((hv0 : Int) / (hi : Int)) = ((hv0 / hi : Nat) : Int) := rfl
              have hgs := guess_ok (n := N) hcpos (Nat.le_of_not_lt hTc) HTOP.out HTG.out.1.1 HH.out (by rw [← HHI.out, hN])
              have hTt := HTt.out
              have hNS : S / c < B := Nat.div_lt_of_lt_mul hSc
              have htN : t + N ≤ S / c := by
                rw [Nat.le_div_iff_mul_le hcpos, Nat.add_mul]
                omega
              have HGS := Hid.intro hgs
              have HTN := Hid.intro (show t + N < 1000000000 from Nat.lt_of_le_of_lt htN hNS)
              have hN2 := hgs.2.1
              have HNB := Hid.intro (show N < B from Nat.lt_of_le_of_lt hN2 (by unfold B; omega))
              have hmul1 := Hid.intro (show 0 < N * c from Nat.mul_pos hgs.1 hcpos)
              have htop2 : (Int.tdiv (hv0 : Int) (hi : Int)) = ((hv0 / hi : Nat) : Int) := rfl
              have hw : wrap64 ((hv0 / hi : Nat) : Int) = ((hv0 / hi : Nat) : Int)   := wrap64_small (x := hv0 / hi) (by
                have h1 : hv0 < 1000000000000000000 := by
                  rw [← HH.out]
                  refine Nat.div_lt_of_lt_mul ?_
                  have h2 := HTP.out
                  rw [Nat.pow_add] at h2
                  exact h2
                have h3 := Nat.div_le_self hv0 hi
                omega)
              refine wpListIn_min rfl _ _ _ rfl .i64 _ _ (M : Int) rfl rfl (by rw [htop1, hw, ← hM]; generalize hv0 / hi = G0; split <;> omega) ?_
              refine wpListIn_max rfl _ _ _ rfl .i64 _ _ (N : Int) rfl rfl (by rw [← hN, hM]; split <;> omega) ?_
              clear hgs hTt hNS htN hN2 hN hM htop1 htop2 hw htop0 HH
              gi_wp2_with (gi_at_call 220; refine stop ?_)
              unfold Stop
              refine (timesN_calls wr _ c N (L + 1) HK8.out.div HCL.out (by omega) HNB.out).mono ?_
              rintro e wa ⟨va', rfl, ⟨hma, _⟩, hba⟩
              have HK9 := Hid.intro (HK8.out.step hba)
              have HMA := Hid.intro hma
              clear hma hba HK8
              gi_wp2_with (gi_at_call 201; refine stop ?_)
              unfold Stop
              refine (subN_calls wa _ _ T (c * N) (l + 2) HK9.out.rest HMA.out (by rw [Nat.mul_comm]; exact HGS.out.2.2) HTP.out (by omega)).mono ?_
              rintro e wb ⟨vb', rfl, ⟨hmb, hfb⟩, hbb⟩
              have HKA2 := Hid.intro ((HK9.out.step hbb).with hmb (Fresh.ne' hfb HK9.out.lt _))
              clear hmb hfb hbb HK9 HMA
              have z1 : wb.cell? ⟨g, m, none⟩ = some (.int .i64 (t : Int)) := (HKA2.out.arr m hmk).1.trans (by rw [if_pos rfl])
              have z2 := (HKA2.out.arr m hmk).2
              have htN2 := HTN.out
              gi_wp2
              have hset := HKA2.out.set hmk hg (.int .i64 ((t : Int) + (N : Int))) (f' := fun j => .int .i64 (((if j = m then t + N else topL (A / c) (m + 1) j) : Nat) : Int)) fun j hj => by
                by_cases e : j = m
                · rw [if_pos e, if_pos e]; exact congrArg (Value.int .i64) (by omega)
                · rw [if_neg e, if_neg e, if_neg e]
              refine ⟨⟨T - c * N, t + N, Hid.intro ?_, Hid.intro hset⟩, ?_⟩
              · have h1 := HTt.out
                have h2 := HGS.out.2.2
                rw [Nat.add_mul, Nat.mul_comm c N]
                omega
              · rw [hset.rest.num, HNUM.out, Nat.mul_comm c N]
                have h1 := hmul1.out
                omega
    · have hm1 : i0 = -1 := by omega
      subst hm1
      have hR0 : A % c = R := by
        have := HRE.out
        simpa using this
      have HR0 := Hid.intro hR0
      have HSM := Hid.intro (small_calls wr _ R d HK.out.rest hd0 hdB)
      clear hR0
      gi_wp2_with (gi_at_call 221; refine stop ?_)
      unfold Stop
      refine HSM.out.mono ?_
      rintro e w5 ⟨vs, rfl, ⟨hm, _⟩, hb5⟩
      have HM := Hid.intro hm
      have HK5 := Hid.intro (HK.out.step hb5)
      clear hm hb5 HK HSM
      have hlt : A / c < B ^ kA := Nat.lt_of_le_of_lt (Nat.div_le_self _ _) HKA.out.1
      have hla : LimbsI w5 (.slice (some ⟨g, 0, none⟩) kA kA) (A / c) kA := by
        rcases Nat.eq_zero_or_pos kA with h | h
        · subst h; exact .inl ⟨rfl, _, _, rfl⟩
        · refine ArrAt.limbsI (ArrAt.congr HK5.out.arr fun j _ => ?_) h (Nat.le_refl _) ⟨by omega, by omega⟩ HK5.out.el
          unfold topL
          rw [if_pos (by simp)]
      have HT := Hid.intro (rtrim_calls w5 _ (A / c) kA hla hlt)
      clear hla hlt
      gi_wp2_with (gi_at_call 198; refine stop ?_)
      unfold Stop
      refine HT.out.mono ?_
      rintro e w6 ⟨vq, rfl, ⟨hm, hf⟩, hb6⟩
      have HQ := Hid.intro hm
      have HFr := Hid.intro (fresh_of hf hg)
      have HB6 := Hid.intro hb6
      clear hm hf hb6 HT
      gi_wp2
      all_goals (first | go_returns | go_ret | go_end0)
      refine ⟨vq, vs, rfl, ⟨?_, HFr.out⟩, ?_, HK5.out.below.trans (HB6.out.mono HK5.out.below.size)⟩
      · rw [← HSC.out.1]; exact HQ.out
      · rw [← HSC.out.2, HR0.out]; exact HM.out.below HB6.out
theorem divN_calls (w : World) (va vb : Value) (x y L : Nat) (ha : NatI w va x) (hb : NatI w vb y) (hy : 0 < y) (hx : x < B ^ L) (hyL : y < B ^ L) (hL : L ≤ 10000000) :
    CallsIn Fence.wide 0 Tryz.prog 197 #[va, vb] w fun e w' => ∃ vq vr, e = .returned (.tuple #[vq, vr]) ∧ NatI w' vq (x / y) ∧ NatI w' vr (x % y) ∧ Below w.heap.size w w' :=
  (divN_fresh w va vb x y L ha hb hy hx hyL hL).mono (fun e w' ⟨vq, vr, h1, h2, h3, h4⟩ => ⟨vq, vr, h1, h2.1, h3, h4⟩)

set_option maxRecDepth 100000 in
set_option maxHeartbeats 8000000 in
/-- **'GcdN'.** -/
theorem gcdN_calls (w : World) (va vb : Value) (x y L : Nat) (ha : NatI w va x) (hb : NatI w vb y) (hx : x < B ^ L) (hy : y < B ^ L) (hL : L ≤ 10000000) :
    CallsIn Fence.wide 0 Tryz.prog 196 #[va, vb] w fun e w' => ∃ v', e = .returned v' ∧ NatI w' v' (Nat.gcd x y) ∧ Below w.heap.size w w' := by
  have HA := Hid.intro ha
  have HB := Hid.intro hb
  have HX := Hid.intro hx
  have HY := Hid.intro hy
  clear ha hb hx hy
  refine callsIn_of_wp Tryz.func196 rfl trivial ?_ rfl
  simp only [Tryz.ntmps196, List.size_toArray, List.length_cons, List.length_nil, Nat.reduceAdd, Nat.reduceSub, Array.replicate_succ, Array.replicate_zero, List.push_toArray, List.append_toArray, List.nil_append, List.cons_append]
  gi_wp2
  gi_loopw [0, 1] (fun va vb wr => ∃ a b : Nat, Hid (NatI wr va a) ∧ Hid (NatI wr vb b) ∧ Hid (a < B ^ L) ∧ Hid (b < B ^ L) ∧ Hid (Nat.gcd a b = Nat.gcd x y) ∧ Hid (Below w.heap.size w wr)) (fun _ vb wr => natNum wr vb)
  case atStart => exact ⟨x, y, HA.out, HB.out, HX.out, HY.out, Hid.intro rfl, Below.refl _ _⟩
  case round =>
    obtain ⟨a, b, HMA, HMB, HLA, HLB, HG, HBr⟩ := hrel
    clear HA HB
    obtain ⟨o, k, c, rfl, hk, hk9⟩ := natI_len HMB.out
    by_cases hb0 : b = 0
    · have hk0 : k = 0 := hk.2 hb0
      subst hk0
      subst hb0
      clear hk
      gi_wp2
      all_goals (first | go_returns | go_ret | go_end0)
      refine ⟨_, rfl, ?_, HBr.out⟩
      rw [← HG.out, Nat.gcd_zero_right]
      exact HMA.out
    · have hk0 : 0 < k := by
        rcases Nat.eq_zero_or_pos k with h | h
        · exact absurd (hk.1 h) hb0
        · exact h
      have HD := Hid.intro (divN_calls wr _ _ a b L HMA.out HMB.out (by omega) HLA.out HLB.out hL)
      have HN := Hid.intro HMB.out.num
      clear hk
      gi_wp2_with (gi_at_call 197; refine HD.out.mono ?_; rintro e w6 ⟨vq, vr, rfl, _, hm6, hB6⟩; have HM6 := Hid.intro hm6; have HB6 := Hid.intro (HBr.out.trans (hB6.mono HBr.out.size)); have HMB6 := Hid.intro (HMB.out.below hB6); clear hm6 hB6)
      refine ⟨⟨b, a % b, HMB6.out, HM6.out, HLB.out, ?_, ?_, HB6.out⟩, ?_⟩
      · exact Hid.intro (Nat.lt_of_lt_of_le (Nat.mod_lt a (by omega)) (Nat.le_of_lt HLB.out))
      · exact Hid.intro (gcd_step.symm.trans HG.out)
      · rw [HM6.out.num, HN.out]
        exact Nat.mod_lt a (by omega)

/-- An integer of the reference. -/
def ZAt (w : World) (v : Value) (z : Int) : Prop := ∃ m, v = .agg #[.bool (decide (z < 0)), m] ∧ NatI w m z.natAbs
theorem ZAt.below {w w' : World} {v : Value} {z : Int} (h : ZAt w v z) (hb : Below w.heap.size w w') : ZAt w' v z := by
  obtain ⟨m, e, hm⟩ := h
  exact ⟨m, e, hm.below hb⟩

set_option maxRecDepth 100000 in
set_option maxHeartbeats 4000000 in
/-- **'Int'.** -/
theorem int_same (w : World) (neg : Bool) (v : Value) (n : Nat) (h : NatI w v n) :
    CallsIn Fence.wide 0 Tryz.prog 94 #[.bool neg, v] w fun e w' => ∃ v', e = .returned v' ∧ (ZAt w' v' (sgn neg n) ∧ ∃ x : Value, v' = .agg #[x, v]) ∧ Below w.heap.size w w' := by
  have HM := Hid.intro h
  obtain ⟨o, k, c, rfl, hk, hk9⟩ := natI_len h
  have HK := Hid.intro hk
  clear h hk
  have fin : ∀ (w' : World) (b : Bool), b = decide (sgn neg n < 0) → Below w.heap.size w w' → ∃ v', Ending.returned (Value.agg #[.bool b, .slice o k c]) = .returned v' ∧ (ZAt w' v' (sgn neg n) ∧ ∃ x : Value, v' = .agg #[x, .slice o k c]) ∧ Below w.heap.size w w' := by
    intro w' b hb hB
    exact ⟨_, rfl, ⟨⟨_, by rw [hb], by rw [sgn_abs]; exact HM.out.below hB⟩, _, rfl⟩, hB⟩
  have FIN := Hid.intro fin
  clear fin
  refine callsIn_of_wp Tryz.func94 rfl trivial ?_ rfl
  simp only [Tryz.ntmps94, List.size_toArray, List.length_cons, List.length_nil, Nat.reduceAdd, Nat.reduceSub, Array.replicate_succ, Array.replicate_zero, List.push_toArray, List.append_toArray, List.nil_append, List.cons_append]
  cases neg with
  | false =>
    have HS : Hid (false = decide (sgn false n < 0)) := Hid.intro (decide_eq_false (by rw [sgn_neg]; simp)).symm
    gi_wp2
    all_goals (first | go_returns | go_ret | go_end0)
    exact FIN.out _ _ HS.out (alloc_below _ _)
  | true =>
    by_cases hk0 : k = 0
    · subst hk0
      have HS : Hid (false = decide (sgn true n < 0)) := Hid.intro (decide_eq_false (by rw [sgn_neg, HK.out.1 rfl]; simp)).symm
      gi_wp2
      all_goals (first | go_returns | go_ret | go_end0)
      exact FIN.out _ _ HS.out (alloc_below _ _)
    · have hk1 : (0 : Int) < (k : Int) := by omega
      have HS : Hid (true = decide (sgn true n < 0)) := Hid.intro (decide_eq_true (by rw [sgn_neg]; exact ⟨rfl, Nat.pos_of_ne_zero fun e => hk0 (HK.out.2 e)⟩)).symm
      gi_wp2
      all_goals (first | go_returns | go_ret | go_end0)
      exact FIN.out _ _ (by rw [← HS.out]; exact decide_eq_true (by omega)) (alloc_below _ _)

theorem int_calls (w : World) (neg : Bool) (v : Value) (n : Nat) (h : NatI w v n) :
    CallsIn Fence.wide 0 Tryz.prog 94 #[.bool neg, v] w fun e w' => ∃ v', e = .returned v' ∧ ZAt w' v' (sgn neg n) ∧ Below w.heap.size w w' :=
  (int_same w neg v n h).mono (fun e w' ⟨v', h1, h2, h3⟩ => ⟨v', h1, h2.1, h3⟩)

set_option maxRecDepth 100000 in
set_option maxHeartbeats 8000000 in
/-- **'Sign' of the reference.** -/
theorem zsign_calls (w : World) (v : Value) (z : Int) (h : ZAt w v z) :
    CallsIn Fence.wide 0 Tryz.prog 98 #[v] w fun e w' => e = .returned (.int .i64 z.sign) ∧ Below w.heap.size w w' := by
  obtain ⟨m, rfl, hn⟩ := h
  obtain ⟨o, k, c, rfl, hk, hk9⟩ := natI_len hn
  have HK := Hid.intro hk
  clear hn hk
  refine callsIn_of_wp Tryz.func98 rfl trivial ?_ rfl
  simp only [Tryz.ntmps98, List.size_toArray, List.length_cons, List.length_nil, Nat.reduceAdd, Nat.reduceSub, Array.replicate_succ, Array.replicate_zero, List.push_toArray, List.append_toArray, List.nil_append, List.cons_append]
  by_cases h1 : z = 0
  · have hs : Hid (z.sign = 0) := Hid.intro (by rw [h1]; rfl)
    have hk0 : k = 0 := HK.out.2 (by rw [h1]; rfl)
    subst hk0
    have hd : decide (z < 0) = false := decide_eq_false (by omega)
    rw [hd]
    clear hd h1
    gi_wp2
    all_goals (first | go_returns | go_ret | go_end0)
    exact ⟨by rw [hs.out] <;> rfl, alloc_below _ _⟩
  · have hk0 : ¬ (k : Int) = 0 := by
      intro q
      have := HK.out.1 (by omega)
      omega
    have hk2 : ((k : Int) == 0) = false := by simp; omega
    by_cases h0 : z < 0
    · have hs : Hid (z.sign = -1) := Hid.intro (Int.sign_eq_neg_one_of_neg h0)
      have hd : decide (z < 0) = true := decide_eq_true h0
      rw [hd]
      clear hd h0 h1
      gi_wp2
      all_goals (first | go_returns | go_ret | go_end0)
      exact ⟨by rw [hs.out] <;> rfl, alloc_below _ _⟩
    · have hs : Hid (z.sign = 1) := Hid.intro (Int.sign_eq_one_of_pos (by omega))
      have hd : decide (z < 0) = false := decide_eq_false h0
      rw [hd]
      clear hd h0 h1
      gi_wp2
      all_goals (first | go_returns | go_ret | go_end0)
      exact ⟨by rw [hs.out] <;> rfl, alloc_below _ _⟩
end Go.Num
