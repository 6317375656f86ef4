/-
  What 'read', 'rat' and 'fits' answer; the law NumSums.
  Conditions: none.
-/
import Derived.Test.YtoamcgjbelhnkaaGreatDoorRefR
import Derived.Test.YtoamcgjbelhnkaaGreatDoorStrY
import Derived.Test.YtoamcgjbelhnkaaGreatDoorAwkX

namespace Go.Num
open Go.Eng Go.Shelf Go.RowKit Go.Sort Go.Proofs Go.Proofs.YtoamcgjbelhnkaaGreatDoor

theorem small_kept (q : Rat) : SmallQ q 20000 = Kept1 q := by
  unfold SmallQ Kept1 SmallN
  congr 1
  split
  · rename_i h
    rw [h, Lib.nDigits_small (by decide), Lib.nDigits_small (by decide)]
  · rfl
theorem nDig_lt {n : Nat} (k : Nat) (h : Lib.nDigits n ≤ 9 * k) : n < B ^ k := by
  rw [B_pow]
  exact Nat.lt_of_lt_of_le (Lib.lt_pow_nDigits n) (Nat.pow_le_pow_right (by decide) h)
theorem kept_le {q : Rat} (h : Kept1 q = true) : RatLe q 2223 := by
  rw [← small_kept] at h
  unfold SmallQ at h
  rw [Bool.and_eq_true] at h
  have h1 := of_decide_eq_true h.1
  have h2 := of_decide_eq_true h.2
  exact ⟨nDig_lt 2223 (by omega), nDig_lt 2223 (by omega)⟩
theorem textL_bytes (q : Rat) : textQ q = ⟨(textL q).toArray⟩ := by
  unfold textQ textL textZ
  split <;> rfl
theorem textL_len {q : Rat} (h : Kept1 q = true) : (textL q).length ≤ 41000 := by
  rw [← small_kept] at h
  unfold SmallQ at h
  rw [Bool.and_eq_true] at h
  have h1 := of_decide_eq_true h.1
  have h2 := of_decide_eq_true h.2
  have hi : (Lib.itoa q.num).length ≤ 20001 := by
    unfold Lib.itoa
    split
    · rw [List.length_cons, Lib.decDigits_length]; omega
    · rename_i hn
      rw [Lib.decDigits_length]
      rw [show q.num.natAbs = q.num.toNat by omega] at h1
      omega
  unfold textL
  split
  · omega
  · rw [List.length_append, List.length_cons, Lib.decDigits_length]; omega
theorem parse_text {q : Rat} (h : Kept1 q = true) : parseE (textL q) = 0 ∧ parseV (textL q) = q := by
  have hp := parse_some (l := textL q) (by have := textL_len h; omega) (text_formQ q)
  rw [hp.1, hp.2]
  unfold keptE keptQ
  rw [if_pos h, if_pos h]
  exact ⟨rfl, rfl⟩

/-- The fraction that 'read' makes. -/
def rq (l : List UInt8) (most : Nat) : Rat := if refE (l.take most) = 0 then (formQ (l.take most)).getD 0 else ((((l.length : Int) % 7 - 3 : Int) : Rat) / ((1 + (l.length : Int) % 3 : Int) : Rat))
theorem quot_le (a b : Int) (hb : 0 < b) : ((a : Rat) / (b : Rat)).num.natAbs ≤ a.natAbs ∧ ((a : Rat) / (b : Rat)).den ≤ b.natAbs := by
  have e : (a : Rat) / (b : Rat) = frac (decide (a < 0)) a.natAbs b.natAbs := by
    unfold frac
    have h1 : sgn (decide (a < 0)) a.natAbs = a := by unfold sgn; simp; omega
    rw [h1, Rat.divInt_eq_div, show ((b.natAbs : Nat) : Int) = b by omega]
  have h := frac_parts (neg := decide (a < 0)) (n := a.natAbs) (d := b.natAbs) (by omega)
  rw [← e] at h
  exact ⟨by rw [h.1]; exact Nat.div_le_self _ _, by rw [h.2.1]; exact Nat.div_le_self _ _⟩
theorem rq_kept (l : List UInt8) (most : Nat) : Kept1 (rq l most) = true := by
  unfold rq
  split
  · rename_i h
    unfold refE at h
    split at h
    · cases h
    · split at h
      · cases h
      · rename_i q hq
        rw [hq]
        show Kept1 q = true
        rw [← small_kept]
        cases hs : SmallQ q 20000 with
        | true => rfl
        | false => rw [hs] at h; cases h
  · obtain ⟨a, ha⟩ : ∃ a : Int, (l.length : Int) % 7 - 3 = a := ⟨_, rfl⟩
    obtain ⟨b, hb⟩ : ∃ b : Int, 1 + (l.length : Int) % 3 = b := ⟨_, rfl⟩
    rw [ha, hb]
    have h := quot_le a b (by omega)
    rw [← small_kept]
    unfold SmallQ
    rw [Lib.nDigits_small (by omega), Lib.nDigits_small (by omega)]
    rfl

set_option maxRecDepth 100000 in
set_option maxHeartbeats 8000000 in
/-- **'read'.** -/
theorem read_calls (w : World) (s : ByteArray) (l : List UInt8) (hl : s.data.toList = l) (hs : s.size ≤ 9223372036854775807) (most : Nat) (_hm : most ≤ 100000) :
    CallsIn Fence.wide 0 Tryz.prog 30 #[.string s, .int .i64 (most : Int)] w fun e w' => ∃ v', e = .returned v' ∧ QAt w' v' (rq l most) ∧ Below w.heap.size w w' := by
  have hsz : s.size = l.length := by rw [Lib.size_eq, hl]
  have HSL := Hid.intro hl
  obtain ⟨n, hnl⟩ : ∃ n, l.length = n := ⟨_, rfl⟩
  rw [hnl] at hsz
  rw [hsz] at hs
  have HN := Hid.intro hnl
  obtain ⟨k, hk⟩ : ∃ k, min n most = k := ⟨_, rfl⟩
  have hkm : min (n : Int) (most : Int) = (k : Int) := by omega
  have hkn : k ≤ n := by omega
  have HTk : Hid (l.take k = l.take most) := Hid.intro (by
    rcases Nat.le_total n most with h | h
    · rw [List.take_of_length_le (by omega), List.take_of_length_le (by omega)]
    · rw [show k = most by omega])
  clear hl hnl
  refine callsIn_of_wp Tryz.func30 rfl trivial ?_ rfl
  simp only [Tryz.ntmps30, List.size_toArray, List.length_cons, List.length_nil, Nat.reduceAdd, Nat.reduceSub, Array.replicate_succ, Array.replicate_zero, List.push_toArray, List.append_toArray, List.nil_append, List.cons_append]
  gi_wp2_with (gi_at_call 12; refine stop ?_)
  unfold Stop
  obtain ⟨W, hW⟩ : ∃ W, W = w.alloc (.cells #[.bool false, .slice none 0 0, .bool false, .slice none 0 0] 34) := ⟨_, rfl⟩
  rw [← hW]
  have HFK : Hid (FourKept w W w.heap.size) := Hid.intro (by rw [hW]; exact fourKept_new _ _ _ _ _)
  obtain ⟨g, hg⟩ : ∃ g, w.heap.size = g := ⟨_, rfl⟩
  rw [hg] at HFK
  rw [hg]
  clear hW hg
  have hx : (s.extract 0 k).data.toList = l.take most := by
    rw [ext_take (l := l) (m := n) (by rw [HSL.out, ← HN.out, List.take_length]) hkn, HTk.out]
  refine (parseQ_calls W (s.extract 0 k) (l.take most) hx).mono ?_
  rintro e w2 ⟨v2, rfl, ⟨s1, o1, k1, c1, s2, o2, k2, c2, rfl⟩, hq, hB⟩
  replace HFK := Hid.intro (HFK.out.step hB)
  obtain ⟨W3, hW3⟩ : ∃ W, W = w2.alloc (.cells #[.bool s1, .slice o1 k1 c1, .bool s2, .slice o2 k2 c2] 34) := ⟨_, rfl⟩
  have hB3 : Below w2.heap.size w2 W3 := by rw [hW3]; exact alloc_below _ _
  replace HFK := Hid.intro (HFK.out.step hB3)
  have HBX : Hid (BoxL W3 w2.heap.size [.bool s1, .slice o1 k1 c1, .bool s2, .slice o2 k2 c2]) := Hid.intro (by rw [hW3]; exact boxL_new _ _ _)
  have hle := HFK.out.le
  have HE := Hid.intro HFK.out.el
  have d0 := HBX.out.2 0 _ rfl
  have d1 := HBX.out.2 1 _ rfl
  have d2 := HBX.out.2 2 _ rfl
  have d3 := HBX.out.2 3 _ rfl
  by_cases h0 : refE (l.take most) = 0
  · obtain ⟨q, hfq, hqa⟩ := hq h0
    have HQ := Hid.intro (hqa.below hB3)
    have HRQ : Hid (rq l most = q) := Hid.intro (by unfold rq; rw [if_pos h0, hfq]; rfl)
    obtain ⟨f, hf⟩ := HFK.out.res
    have HF := Hid.intro hf
    have z0 := (hf 0 (by omega)).1
    have z1 := (hf 1 (by omega)).1
    have z2 := (hf 2 (by omega)).1
    have z3 := (hf 3 (by omega)).1
    have y0 := (hf 0 (by omega)).2
    have y1 := (hf 1 (by omega)).2
    have y2 := (hf 2 (by omega)).2
    have y3 := (hf 3 (by omega)).2
    rw [h0]
    rw [hW3] at d0 d1 d2 d3 z0 z1 z2 z3 y0 y1 y2 y3
    clear hq hfq hqa hf hx hB hB3 h0
    gi_wp2
    rw [← hW3]
    have hA := (((HF.out.set (i := 0) (by omega) (.bool s1)).set (i := 1) (by omega) (.slice o1 k1 c1)).set (i := 2) (by omega) (.bool s2)).set (i := 3) (by omega) (.slice o2 k2 c2)
    refine ret_agg (cs := [.bool s1, .slice o1 k1 c1, .bool s2, .slice o2 k2 c2]) rfl rfl g rfl l34 rfl (fun j v hj => ?_) ?_
    · match j, hj with
      | 0, hj => rw [← hj]; exact (hA 0 (by omega)).1
      | 1, hj => rw [← hj]; exact (hA 1 (by omega)).1
      | 2, hj => rw [← hj]; exact (hA 2 (by omega)).1
      | 3, hj => rw [← hj]; exact (hA 3 (by omega)).1
    · refine ⟨_, rfl, ?_, (((HFK.out.below.setCell hle _).setCell hle _).setCell hle _).setCell hle _⟩
      rw [HRQ.out]
      obtain ⟨m1, m2, e, h1, h2⟩ := HQ.out
      exact ⟨m1, m2, e, h1.set4 HE.out, h2.set4 HE.out⟩
  · have hne : (refE (l.take most) != 0) = true := by rw [bne_iff_ne]; exact h0
    have HRQ : Hid (rq l most = (((n : Int) % 7 - 3 : Int) : Rat) / ((1 + (n : Int) % 3 : Int) : Rat)) := Hid.intro (by unfold rq; rw [if_neg h0, HN.out])
    clear hq hx hB d0 d1 d2 d3 h0
    gi_wp2_with (gi_at_call 24; refine stop ?_)
    unfold Stop
    rw [← hW3]
    clear hW3 hB3
    refine (frac_calls W3 ((n : Int) % 7 - 3) (1 + (n : Int) % 3) (by omega) (by omega) (by omega) (by omega) (by omega)).mono ?_
    rintro e w4 ⟨v4, rfl, hq4, hB⟩
    replace HFK := Hid.intro (HFK.out.step hB)
    replace HE := Hid.intro HFK.out.el
    rw [← HRQ.out] at hq4
    have HQ := Hid.intro hq4
    obtain ⟨m1, m2, rfl, hm1, hm2⟩ := hq4
    obtain ⟨o3, k3, c3, rfl, _, _⟩ := natI_len hm1
    obtain ⟨o4, k4, c4, rfl, _, _⟩ := natI_len hm2
    obtain ⟨s3, hs3⟩ : ∃ s3, decide ((rq l most).num < 0) = s3 := ⟨_, rfl⟩
    rw [hs3] at HQ
    rw [hs3]
    obtain ⟨f, hf⟩ := HFK.out.res
    have HF := Hid.intro hf
    have z0 := (hf 0 (by omega)).1
    have z1 := (hf 1 (by omega)).1
    have z2 := (hf 2 (by omega)).1
    have z3 := (hf 3 (by omega)).1
    have y0 := (hf 0 (by omega)).2
    have y1 := (hf 1 (by omega)).2
    have y2 := (hf 2 (by omega)).2
    have y3 := (hf 3 (by omega)).2
    clear hm1 hm2 hf hB hs3
    gi_wp2
    have hA := (((HF.out.set (i := 0) (by omega) (.bool s3)).set (i := 1) (by omega) (.slice o3 k3 c3)).set (i := 2) (by omega) (.bool false)).set (i := 3) (by omega) (.slice o4 k4 c4)
    refine ret_agg (cs := [.bool s3, .slice o3 k3 c3, .bool false, .slice o4 k4 c4]) rfl rfl g rfl l34 rfl (fun j v hj => ?_) ?_
    · match j, hj with
      | 0, hj => rw [← hj]; exact (hA 0 (by omega)).1
      | 1, hj => rw [← hj]; exact (hA 1 (by omega)).1
      | 2, hj => rw [← hj]; exact (hA 2 (by omega)).1
      | 3, hj => rw [← hj]; exact (hA 3 (by omega)).1
    · refine ⟨_, rfl, ?_, (((HFK.out.below.setCell hle _).setCell hle _).setCell hle _).setCell hle _⟩
      obtain ⟨m1, m2, e, h1, h2⟩ := HQ.out
      exact ⟨m1, m2, e, h1.set4 HE.out, h2.set4 HE.out⟩

/-- **'rat'.** -/
theorem rat_calls (w : World) (v : Value) (q : Rat) (h : QAt w v q) (hk : Kept1 q = true) (hL : Laid w) :
    CallsIn Fence.wide 0 Tryz.prog 31 #[v] w fun e w' => ∃ v', e = .returned v' ∧ RatAt w' v' q ∧ Below w.heap.size w w' := by
  have hT : TI w [leafQ q, leafS (textQ q), leafR q] [(73, A1 (tg 0), A1 (tg 1)), (11, A1 (tg 1), A2 (tg 2) (vi 0))] := by
    refine told_e1 ⟨_, Tryz.func73, rfl⟩ (fun w1 v hw hv => ?_) <| told_e1 ⟨_, Tryz.func11, rfl⟩ (fun w1 v hw hv => ?_) told_nil
    · refine (form_calls w1 v q hv ((kept_le hk).mono (by decide))).mono ?_
      rintro e w' ⟨rfl, h2⟩
      exact ⟨_, rfl, rfl, h2⟩
    · have hv : v = .string (textQ q) := hv
      subst hv
      refine (parseR_calls w1 (textQ q) (textL q) (by rw [textL_bytes]) (hL.below hw)).mono ?_
      rintro e w' ⟨v', rfl, h1, h2⟩
      rw [(parse_text hk).1]
      rw [(parse_text hk).2] at h1
      exact ⟨_, rfl, pk2 h1 rfl, h2⟩
  refine (run_script follows namesOK (S := [shQ, .str, shR]) rfl hT (n := 50) (ts := A1 (tg 0)) (rs := A1 (tg 2)) (by kernel_rfl) (xs := #[v]) (ps1 h)).mono ?_
  rintro e w' ⟨x, rfl, hx, hB⟩
  exact ⟨x, rfl, hx, hB⟩

/-- **'fits'.** -/
theorem fits_calls (w : World) (v u : Value) (q : Rat) (h : RatAt w v (keptQ q)) (hu : QAt w u q) (hL : Laid w) :
    CallsIn Fence.wide 0 Tryz.prog 42 #[v, .int .i64 (keptE q), u] w fun e w' => e = .returned (.bool true) ∧ Below w.heap.size w w' := by
  have hs : ∀ (w1 : World) (u1 : Value), QAt w1 u1 q → CallsIn Fence.wide 0 Tryz.prog 33 #[u1, .int .i64 20000] w1 fun e w' => e = .returned (.bool (Kept1 q)) ∧ Below w1.heap.size w1 w' := by
    intro w1 u1 h1
    rw [← small_kept]
    exact smallQ_calls w1 u1 q 20000 h1
  unfold keptQ at h
  unfold keptE
  cases hk : Kept1 q with
  | false =>
    rw [hk] at h
    simp only [Bool.false_eq_true, if_false] at h ⊢
    have hT : TI w [leafR 0, leafQ q] [(33, A2 (tg 1) (vi 20000), A1 (vb false)), (13, A1 (tg 0), A1 (.val (.sc (.str ⟨#[48]⟩))))] := by
      refine told_e2 ⟨_, Tryz.func33, rfl⟩ (fun w1 v u hw hv hu => ?_) <| told_e1 ⟨_, Tryz.func13, rfl⟩ (fun w1 v hw hv => ?_) told_nil
      · have hu : some (Value.int .i64 20000) = some u := hu
        cases hu
        refine (hs w1 v hv).mono ?_
        rintro e w' ⟨rfl, h2⟩
        rw [hk]
        exact ⟨_, rfl, rfl, h2⟩
      · refine (string_calls w1 v 0 hv (ratLe_zero (by decide)) (hL.pow.below hw)).mono ?_
        rintro e w' ⟨rfl, h2⟩
        rw [textQ_zero]
        exact ⟨_, rfl, rfl, h2⟩
    refine (run_script follows namesOK (S := [shR, shQ]) rfl hT (n := 50) (ts := A3 (tg 0) (vi 11) (tg 1)) (rs := A1 (vb true)) (by kernel_rfl) (xs := #[v, .int .i64 11, u]) (ps3 h rfl hu)).mono ?_
    rintro e w' ⟨x, rfl, hx, hB⟩
    have hx : some (Value.bool true) = some x := hx
    cases hx
    exact ⟨rfl, hB⟩
  | true =>
    rw [hk] at h
    simp only [if_true] at h ⊢
    have hT : TI w [leafR q, leafQ q] [(33, A2 (tg 1) (vi 20000), A1 (vb true)), (19, A2 (tg 0) (tg 1), A1 (vb true))] := by
      refine told_e2 ⟨_, Tryz.func33, rfl⟩ (fun w1 v u hw hv hu => ?_) <| told_e2 ⟨_, Tryz.func19, rfl⟩ (fun w1 v u hw hv hu => ?_) told_nil
      · have hu : some (Value.int .i64 20000) = some u := hu
        cases hu
        refine (hs w1 v hv).mono ?_
        rintro e w' ⟨rfl, h2⟩
        rw [hk]
        exact ⟨_, rfl, rfl, h2⟩
      · refine (is_calls w1 v u q hv hu ((kept_le hk).mono (by decide)) (hL.pow.below hw)).mono ?_
        rintro e w' ⟨rfl, h2⟩
        exact ⟨_, rfl, rfl, h2⟩
    refine (run_script follows namesOK (S := [shR, shQ]) rfl hT (n := 50) (ts := A3 (tg 0) (vi 0) (tg 1)) (rs := A1 (vb true)) (by kernel_rfl) (xs := #[v, .int .i64 0, u]) (ps3 h rfl hu)).mono ?_
    rintro e w' ⟨x, rfl, hx, hB⟩
    have hx : some (Value.bool true) = some x := hx
    cases hx
    exact ⟨rfl, hB⟩
end Go.Num

namespace Go.Num
open Go.Eng Go.Shelf Go.RowKit Go.Sort Go.Proofs Go.Proofs.YtoamcgjbelhnkaaGreatDoor

theorem sub_sign (p q : Rat) : (0 ≤ (p - q).num ↔ q.num * p.den ≤ p.num * q.den) ∧ ((p - q).num ≤ 0 ↔ p.num * q.den ≤ q.num * p.den) := by
  constructor
  · rw [Rat.num_nonneg, ← Rat.le_iff_sub_nonneg, Rat.le_iff]
  · have e : (q - p).num = -(p - q).num := by
      rw [show q - p = -(p - q) by rw [Rat.neg_sub]]
      rfl
    have h : 0 ≤ (q - p).num ↔ p.num * q.den ≤ q.num * p.den := by rw [Rat.num_nonneg, ← Rat.le_iff_sub_nonneg, Rat.le_iff]
    rw [← h, e]
    omega
theorem sgn_sub (p q : Rat) : (p.num * (q.den : Int) - q.num * (p.den : Int)).sign = sgnR (p - q) := by
  have h := sub_sign p q
  obtain ⟨x, hx⟩ : ∃ x, p.num * (q.den : Int) = x := ⟨_, rfl⟩
  obtain ⟨y, hy⟩ : ∃ y, q.num * (p.den : Int) = y := ⟨_, rfl⟩
  obtain ⟨z, hz⟩ : ∃ z, (p - q).num = z := ⟨_, rfl⟩
  rw [hx, hy, hz] at h
  rw [hx, hy]
  unfold sgnR
  rw [hz]
  rcases Int.lt_trichotomy x y with hl | hl | hl
  · rw [Int.sign_eq_neg_one_of_neg (by omega), if_pos (by omega)]
  · rw [show x - y = 0 by omega, if_neg (by omega), if_pos (by omega)]; rfl
  · rw [Int.sign_eq_one_of_pos (by omega), if_neg (by omega), if_neg (by omega)]
theorem sgn_num (q : Rat) : q.num.sign = sgnR q := by
  unfold sgnR
  rcases Int.lt_trichotomy q.num 0 with h | h | h
  · rw [Int.sign_eq_neg_one_of_neg h, if_pos h]
  · rw [h]; rfl
  · rw [Int.sign_eq_one_of_pos h, if_neg (by omega), if_neg (by omega)]
theorem sgnR_three (q : Rat) : sgnR q = -1 ∨ sgnR q = 0 ∨ sgnR q = 1 := by
  unfold sgnR
  split
  · exact .inl rfl
  · split
    · exact .inr (.inl rfl)
    · exact .inr (.inr rfl)

def leafZ (z : Int) : Leaf rs3 where
  sh := .agg 2
  I := fun v w => ZAt w v z
  stable := by
    rintro v w w' hk ⟨m, e, h⟩
    exact ⟨m, e, h.kept hk rfl⟩
  ok := by
    rintro v w ⟨m, rfl, h⟩
    refine ⟨_, rfl, rfl, fun x hx => ?_⟩
    simp only [List.mem_cons, List.not_mem_nil, or_false] at hx
    rcases hx with rfl | rfl
    · rfl
    · exact h.oneCell
  det := fun h => by cases h
/-- **'Zero'.** -/
theorem zeroQ_calls (w : World) : CallsIn Fence.wide 0 Tryz.prog 36 #[] w fun e w' => ∃ v', e = .returned v' ∧ QAt w' v' 0 ∧ Below w.heap.size w w' := by
  have hT : TI w [leafZ 0, leafQ 0] [(22, A1 (vi 0), A1 (tg 0)), (21, A1 (tg 0), A1 (tg 1))] := by
    refine told_e1 ⟨_, Tryz.func22, rfl⟩ (fun w1 v hw hv => ?_) <| told_e1 ⟨_, Tryz.func21, rfl⟩ (fun w1 v hw hv => ?_) told_nil
    · have hv : some (Value.int .i64 0) = some v := hv
      cases hv
      refine (rOf_calls w1 0 (by decide) (by decide)).mono ?_
      rintro e w' ⟨v', rfl, h1, h2⟩
      exact ⟨_, rfl, h1, h2⟩
    · refine (whole_calls w1 v 0 hv).mono ?_
      rintro e w' ⟨v', rfl, h1, h2⟩
      exact ⟨_, rfl, h1, h2⟩
  refine (run_script follows namesOK (S := [.agg 2, shQ]) rfl hT (n := 50) (ts := .nil) (rs := A1 (tg 1)) (by kernel_rfl) (xs := #[]) rfl).mono ?_
  rintro e w' ⟨x, rfl, hx, hB⟩
  exact ⟨x, rfl, hx, hB⟩

/-! ### Entries -/
section
variable {w0 : World} {env : List (Leaf rs3)} {r : List Entry}
theorem told_awake (hL : Laid w0) (K : TI w0 env r) : TI w0 env ((14, .nil, A1 (vb true)) :: r) := by
  refine told_e0 ⟨_, Tryz.func14, rfl⟩ (fun w hw => ?_) K
  refine (awake_laid hL w hw).mono ?_
  rintro e w' ⟨rfl, h2⟩
  exact ⟨_, rfl, rfl, h2⟩
theorem at_leaf {k : Nat} {p : Leaf rs3} (h : env[k]? = some p) {v : Value} {w : World} : PieceOK (Gs env) (tg k) v w ↔ p.I v w := by
  show Leaf.at env (.leaf k) v w ↔ _
  unfold Leaf.at
  simp only [h]
theorem told_read {i k : Nat} {s : ByteArray} {most : Nat} {z : Int} (hi : env[i]? = some (leafS s)) (hk : env[k]? = some (leafQ (rq s.data.toList most))) (hs : s.size ≤ 9223372036854775807) (hm : most ≤ 100000) (hz : z = (most : Int)) (K : TI w0 env r) :
    TI w0 env ((30, A2 (tg i) (vi z), A1 (tg k)) :: r) := by
  refine told_e2 ⟨_, Tryz.func30, rfl⟩ (fun w v u hw hv hu => ?_) K
  have hv : v = .string s := (at_leaf hi).1 hv
  have hu : some (Value.int .i64 z) = some u := hu
  cases hu
  subst hv
  rw [hz]
  refine (read_calls w s _ rfl hs most hm).mono ?_
  rintro e w' ⟨v', rfl, h1, h2⟩
  exact ⟨_, rfl, (at_leaf hk).2 h1, h2⟩
theorem told_rat {i k : Nat} {q : Rat} (hi : env[i]? = some (leafQ q)) (hk : env[k]? = some (leafR q)) (hq : Kept1 q = true) (hL : Laid w0) (K : TI w0 env r) :
    TI w0 env ((31, A1 (tg i), A1 (tg k)) :: r) := by
  refine told_e1 ⟨_, Tryz.func31, rfl⟩ (fun w v hw hv => ?_) K
  refine (rat_calls w v q ((at_leaf hi).1 hv) hq (hL.below hw)).mono ?_
  rintro e w' ⟨v', rfl, h1, h2⟩
  exact ⟨_, rfl, (at_leaf hk).2 h1, h2⟩
theorem told_fits {i j k : Nat} {q : Rat} (hi : env[i]? = some (leafR (keptQ q))) (hj : env[j]? = some (leafI (keptE q))) (hk : env[k]? = some (leafQ q)) (hL : Laid w0) (K : TI w0 env r) :
    TI w0 env ((42, A3 (tg i) (tg j) (tg k), A1 (vb true)) :: r) := by
  refine told_e3 ⟨_, Tryz.func42, rfl⟩ (fun w v u x hw hv hu hx => ?_) K
  have hu : u = .int .i64 (keptE q) := (at_leaf hj).1 hu
  subst hu
  refine (fits_calls w v x q ((at_leaf hi).1 hv) ((at_leaf hk).1 hx) (hL.below hw)).mono ?_
  rintro e w' ⟨rfl, h2⟩
  exact ⟨_, rfl, rfl, h2⟩
theorem told_is {i j : Nat} {q : Rat} (hi : env[i]? = some (leafR q)) (hj : env[j]? = some (leafQ q)) (hq : RatLe q 20000) (hL : Laid w0) (K : TI w0 env r) :
    TI w0 env ((19, A2 (tg i) (tg j), A1 (vb true)) :: r) := by
  refine told_e2 ⟨_, Tryz.func19, rfl⟩ (fun w v u hw hv hu => ?_) K
  refine (is_calls w v u q ((at_leaf hi).1 hv) ((at_leaf hj).1 hu) hq (hL.pow.below hw)).mono ?_
  rintro e w' ⟨rfl, h2⟩
  exact ⟨_, rfl, rfl, h2⟩
theorem told_zero {k : Nat} (hk : env[k]? = some (leafQ 0)) (K : TI w0 env r) : TI w0 env ((36, .nil, A1 (tg k)) :: r) := by
  refine told_e0 ⟨_, Tryz.func36, rfl⟩ (fun w hw => ?_) K
  refine (zeroQ_calls w).mono ?_
  rintro e w' ⟨v', rfl, h1, h2⟩
  exact ⟨_, rfl, (at_leaf hk).2 h1, h2⟩
theorem told_negR {i k : Nat} {q : Rat} (hi : env[i]? = some (leafR q)) (hk : env[k]? = some (leafR (-q))) (K : TI w0 env r) : TI w0 env ((46, A1 (tg i), A1 (tg k)) :: r) := by
  refine told_e1 ⟨_, Tryz.func46, rfl⟩ (fun w v hw hv => ?_) K
  refine (neg_calls w v q ((at_leaf hi).1 hv)).mono ?_
  rintro e w' ⟨v', rfl, h1, h2⟩
  exact ⟨_, rfl, (at_leaf hk).2 h1, h2⟩
theorem told_cmpR {i j : Nat} {p q : Rat} {L : Nat} {c : Int} (hi : env[i]? = some (leafR p)) (hj : env[j]? = some (leafR q)) (hp : RatLe p L) (hq : RatLe q L) (hL : L ≤ 1000000) (hc : sgnR (p - q) = c) (K : TI w0 env r) :
    TI w0 env ((44, A2 (tg i) (tg j), A1 (vi c)) :: r) := by
  refine told_e2 ⟨_, Tryz.func44, rfl⟩ (fun w v u hw hv hu => ?_) K
  refine (cmpR_calls w v u p q L ((at_leaf hi).1 hv) ((at_leaf hj).1 hu) hp hq hL).mono ?_
  rintro e w' ⟨rfl, h2⟩
  rw [hc]
  exact ⟨_, rfl, rfl, h2⟩
theorem told_cmpQ {i j : Nat} {p q : Rat} {c : Int} (hi : env[i]? = some (leafQ p)) (hj : env[j]? = some (leafQ q)) (hp : RatLe p 4700) (hq : RatLe q 4700) (hc : sgnR (p - q) = c) (K : TI w0 env r) :
    TI w0 env ((45, A2 (tg i) (tg j), A1 (vi c)) :: r) := by
  refine told_e2 ⟨_, Tryz.func45, rfl⟩ (fun w v u hw hv hu => ?_) K
  refine (compareQ_calls w v u p q ((at_leaf hi).1 hv) ((at_leaf hj).1 hu) hp hq).mono ?_
  rintro e w' ⟨rfl, h2⟩
  rw [sgn_sub, hc]
  exact ⟨_, rfl, rfl, h2⟩
theorem told_sgnQ {i : Nat} {p : Rat} {c : Int} (hi : env[i]? = some (leafQ p)) (hp : RatLe p 4700) (hc : sgnR p = c) (K : TI w0 env r) :
    TI w0 env ((18, A1 (tg i), A1 (vi c)) :: r) := by
  refine told_e1 ⟨_, Tryz.func18, rfl⟩ (fun w v hw hv => ?_) K
  refine (sgnQ_calls w v p ((at_leaf hi).1 hv) hp).mono ?_
  rintro e w' ⟨rfl, h2⟩
  rw [sgn_num, hc]
  exact ⟨_, rfl, rfl, h2⟩
theorem told_sgnR {i : Nat} {p : Rat} {c : Int} (hi : env[i]? = some (leafR p)) (hc : sgnR p = c) (K : TI w0 env r) :
    TI w0 env ((17, A1 (tg i), A1 (vi c)) :: r) := by
  refine told_e1 ⟨_, Tryz.func17, rfl⟩ (fun w v hw hv => ?_) K
  refine (sign_calls w v p ((at_leaf hi).1 hv)).mono ?_
  rintro e w' ⟨rfl, h2⟩
  rw [hc]
  exact ⟨_, rfl, rfl, h2⟩
theorem told_str {i k : Nat} {p : Rat} (hi : env[i]? = some (leafR p)) (hk : env[k]? = some (leafS (textQ p))) (hp : RatLe p 100000) (hL : Laid w0) (K : TI w0 env r) :
    TI w0 env ((13, A1 (tg i), A1 (tg k)) :: r) := by
  refine told_e1 ⟨_, Tryz.func13, rfl⟩ (fun w v hw hv => ?_) K
  refine (string_calls w v p ((at_leaf hi).1 hv) hp (hL.pow.below hw)).mono ?_
  rintro e w' ⟨rfl, h2⟩
  exact ⟨_, rfl, (at_leaf hk).2 rfl, h2⟩
theorem told_str0 {i : Nat} (hi : env[i]? = some (leafR 0)) (hL : Laid w0) (K : TI w0 env r) :
    TI w0 env ((13, A1 (tg i), A1 (.val (.sc (.str ⟨#[48]⟩)))) :: r) := by
  refine told_e1 ⟨_, Tryz.func13, rfl⟩ (fun w v hw hv => ?_) K
  refine (string_calls w v 0 ((at_leaf hi).1 hv) (ratLe_zero (by decide)) (hL.pow.below hw)).mono ?_
  rintro e w' ⟨rfl, h2⟩
  rw [textQ_zero]
  exact ⟨_, rfl, rfl, h2⟩
theorem told_quo0 {i j k : Nat} {p q : Rat} (hi : env[i]? = some (leafR p)) (hj : env[j]? = some (leafR q)) (hk : env[k]? = some (leafR 0)) (hq : q.num = 0) (K : TI w0 env r) :
    TI w0 env ((47, A2 (tg i) (tg j), A2 (tg k) (vi 6)) :: r) := by
  refine told_e2 ⟨_, Tryz.func47, rfl⟩ (fun w v u hw hv hu => ?_) K
  refine (quoR_zero w v u p q ((at_leaf hi).1 hv) ((at_leaf hj).1 hu) hq).mono ?_
  rintro e w' ⟨v', rfl, h1, h2⟩
  exact ⟨_, rfl, pk2 ((at_leaf hk).2 h1) rfl, h2⟩
theorem told_add {i j k m : Nat} {p q : Rat} {L : Nat} (hi : env[i]? = some (leafR p)) (hj : env[j]? = some (leafR q)) (hk : env[k]? = some (leafR (keptQ (p + q)))) (hm : env[m]? = some (leafI (keptE (p + q)))) (hp : RatLe p L) (hq : RatLe q L) (hL : L ≤ 1000000) (hr : RatLe (p + q) 100000) (hLd : Laid w0) (K : TI w0 env r) :
    TI w0 env ((39, A2 (tg i) (tg j), A2 (tg k) (tg m)) :: r) := by
  refine told_e2 ⟨_, Tryz.func39, rfl⟩ (fun w v u hw hv hu => ?_) K
  refine (addS_calls w v u p q L ((at_leaf hi).1 hv) ((at_leaf hj).1 hu) hp hq hL hr (hLd.pow.below hw)).mono ?_
  rintro e w' ⟨v', rfl, h1, h2⟩
  exact ⟨_, rfl, pk2 ((at_leaf hk).2 h1) ((at_leaf hm).2 rfl), h2⟩
theorem told_sub {i j k m : Nat} {p q : Rat} {L : Nat} (hi : env[i]? = some (leafR p)) (hj : env[j]? = some (leafR q)) (hk : env[k]? = some (leafR (keptQ (p - q)))) (hm : env[m]? = some (leafI (keptE (p - q)))) (hp : RatLe p L) (hq : RatLe q L) (hL : L ≤ 1000000) (hr : RatLe (p - q) 100000) (hLd : Laid w0) (K : TI w0 env r) :
    TI w0 env ((40, A2 (tg i) (tg j), A2 (tg k) (tg m)) :: r) := by
  refine told_e2 ⟨_, Tryz.func40, rfl⟩ (fun w v u hw hv hu => ?_) K
  refine (subS_calls w v u p q L ((at_leaf hi).1 hv) ((at_leaf hj).1 hu) hp hq hL hr (hLd.pow.below hw)).mono ?_
  rintro e w' ⟨v', rfl, h1, h2⟩
  exact ⟨_, rfl, pk2 ((at_leaf hk).2 h1) ((at_leaf hm).2 rfl), h2⟩
theorem told_mul {i j k m : Nat} {p q : Rat} {L : Nat} (hi : env[i]? = some (leafR p)) (hj : env[j]? = some (leafR q)) (hk : env[k]? = some (leafR (keptQ (p * q)))) (hm : env[m]? = some (leafI (keptE (p * q)))) (hp : RatLe p L) (hq : RatLe q L) (hL : L ≤ 1000000) (hr : RatLe (p * q) 100000) (hLd : Laid w0) (K : TI w0 env r) :
    TI w0 env ((41, A2 (tg i) (tg j), A2 (tg k) (tg m)) :: r) := by
  refine told_e2 ⟨_, Tryz.func41, rfl⟩ (fun w v u hw hv hu => ?_) K
  refine (mulS_calls w v u p q L ((at_leaf hi).1 hv) ((at_leaf hj).1 hu) hp hq hL hr (hLd.pow.below hw)).mono ?_
  rintro e w' ⟨v', rfl, h1, h2⟩
  exact ⟨_, rfl, pk2 ((at_leaf hk).2 h1) ((at_leaf hm).2 rfl), h2⟩
theorem told_quo {i j k m : Nat} {p q : Rat} {L : Nat} (hi : env[i]? = some (leafR p)) (hj : env[j]? = some (leafR q)) (hk : env[k]? = some (leafR (keptQ (p / q)))) (hm : env[m]? = some (leafI (keptE (p / q)))) (hp : RatLe p L) (hq : RatLe q L) (hL : L ≤ 1000000) (hr : RatLe (p / q) 100000) (hq0 : q.num ≠ 0) (hLd : Laid w0) (K : TI w0 env r) :
    TI w0 env ((47, A2 (tg i) (tg j), A2 (tg k) (tg m)) :: r) := by
  refine told_e2 ⟨_, Tryz.func47, rfl⟩ (fun w v u hw hv hu => ?_) K
  refine (quoS_calls w v u p q L ((at_leaf hi).1 hv) ((at_leaf hj).1 hu) hp hq hL hr hq0 (hLd.pow.below hw)).mono ?_
  rintro e w' ⟨v', rfl, h1, h2⟩
  exact ⟨_, rfl, pk2 ((at_leaf hk).2 h1) ((at_leaf hm).2 rfl), h2⟩
theorem told_plusQ {i j k : Nat} {p q t : Rat} (hi : env[i]? = some (leafQ p)) (hj : env[j]? = some (leafQ q)) (hk : env[k]? = some (leafQ t)) (ht : p + q = t) (hp : RatLe p 4700) (hq : RatLe q 4700) (K : TI w0 env r) :
    TI w0 env ((37, A2 (tg i) (tg j), A1 (tg k)) :: r) := by
  refine told_e2 ⟨_, Tryz.func37, rfl⟩ (fun w v u hw hv hu => ?_) K
  refine (plusQ_calls w v u p q ((at_leaf hi).1 hv) ((at_leaf hj).1 hu) hp hq).mono ?_
  rintro e w' ⟨v', rfl, h1, h2⟩
  rw [ht] at h1
  exact ⟨_, rfl, (at_leaf hk).2 h1, h2⟩
theorem told_minusQ {i j k : Nat} {p q t : Rat} (hi : env[i]? = some (leafQ p)) (hj : env[j]? = some (leafQ q)) (hk : env[k]? = some (leafQ t)) (ht : p - q = t) (hp : RatLe p 4700) (hq : RatLe q 4700) (K : TI w0 env r) :
    TI w0 env ((43, A2 (tg i) (tg j), A1 (tg k)) :: r) := by
  refine told_e2 ⟨_, Tryz.func43, rfl⟩ (fun w v u hw hv hu => ?_) K
  refine (minusQ_calls w v u p q ((at_leaf hi).1 hv) ((at_leaf hj).1 hu) hp hq).mono ?_
  rintro e w' ⟨v', rfl, h1, h2⟩
  rw [ht] at h1
  exact ⟨_, rfl, (at_leaf hk).2 h1, h2⟩
theorem told_timesQ {i j k : Nat} {p q t : Rat} (hi : env[i]? = some (leafQ p)) (hj : env[j]? = some (leafQ q)) (hk : env[k]? = some (leafQ t)) (ht : p * q = t) (hp : RatLe p 4700) (hq : RatLe q 4700) (K : TI w0 env r) :
    TI w0 env ((38, A2 (tg i) (tg j), A1 (tg k)) :: r) := by
  refine told_e2 ⟨_, Tryz.func38, rfl⟩ (fun w v u hw hv hu => ?_) K
  refine (timesQ_calls w v u p q ((at_leaf hi).1 hv) ((at_leaf hj).1 hu) hp hq).mono ?_
  rintro e w' ⟨v', rfl, h1, h2⟩
  rw [ht] at h1
  exact ⟨_, rfl, (at_leaf hk).2 h1, h2⟩
theorem told_overQ {i j k : Nat} {p q t : Rat} (hi : env[i]? = some (leafQ p)) (hj : env[j]? = some (leafQ q)) (hk : env[k]? = some (leafQ t)) (ht : p / q = t) (hp : RatLe p 4700) (hq : RatLe q 4700) (hq0 : q.num ≠ 0) (K : TI w0 env r) :
    TI w0 env ((48, A2 (tg i) (tg j), A1 (tg k)) :: r) := by
  refine told_e2 ⟨_, Tryz.func48, rfl⟩ (fun w v u hw hv hu => ?_) K
  refine (overQ_calls w v u p q ((at_leaf hi).1 hv) ((at_leaf hj).1 hu) hp hq hq0).mono ?_
  rintro e w' ⟨v', rfl, h1, h2⟩
  rw [ht] at h1
  exact ⟨_, rfl, (at_leaf hk).2 h1, h2⟩
end
end Go.Num
