/-
  The law NumField answers true.
  Conditions: the tables lie in memory; a string's length is an int.
-/
import Derived.Test.YtoamcgjbelhnkaaGreatDoorLawX
namespace Go.Num
open Go.Eng Go.Shelf Go.RowKit Go.Sort Go.Proofs Go.Proofs.YtoamcgjbelhnkaaGreatDoor

/-! ### Plain -/
theorem kept_of_le {q : Rat} {L : Nat} (h : RatLe q L) (h0 : 0 < L) (hL : L ≤ 2222) : Kept1 q = true := by
  rw [← small_kept]
  unfold SmallQ
  have h1 := nDigits_pow h0 h.1
  have h2 := nDigits_pow h0 h.2
  rw [decide_eq_true (by omega), decide_eq_true (by omega)]
  rfl
theorem form_digits {l : List UInt8} {q : Rat} (h : formQ l = some q) : Lib.nDigits q.num.natAbs ≤ l.length + 1 ∧ Lib.nDigits q.den ≤ l.length + 1 := by
  have e := congrArg List.length (formQ_text h)
  have hi : Lib.nDigits q.num.natAbs ≤ (Lib.itoa q.num).length := by
    unfold Lib.itoa
    split
    · rw [List.length_cons, Lib.decDigits_length]; omega
    · rename_i hn
      rw [Lib.decDigits_length, show q.num.toNat = q.num.natAbs by omega]
      exact Nat.le_refl _
  unfold textL at e
  split at e
  · rename_i h1
    rw [h1, Lib.nDigits_small (show 1 < 10 by decide)]
    omega
  · rw [List.length_append, List.length_cons, Lib.decDigits_length] at e
    omega
theorem rq_small (l : List UInt8) : RatLe (rq l 300) 34 := by
  have key : ∀ q : Rat, Lib.nDigits q.num.natAbs ≤ 301 → Lib.nDigits q.den ≤ 301 → RatLe q 34 := fun q h1 h2 => ⟨nDig_lt 34 (by omega), nDig_lt 34 (by omega)⟩
  unfold rq
  split
  · rename_i h
    unfold refE at h
    split at h
    · cases h
    · split at h
      · cases h
      · rename_i q hq
        rw [hq]
        have := form_digits hq
        rw [List.length_take] at this
        exact key q (by omega) (by omega)
  · obtain ⟨a, ha⟩ : ∃ a : Int, (l.length : Int) % 7 - 3 = a := ⟨_, rfl⟩
    obtain ⟨b, hb⟩ : ∃ b : Int, 1 + (l.length : Int) % 3 = b := ⟨_, rfl⟩
    rw [ha, hb]
    have h := quot_le a b (by omega)
    exact key _ (by rw [Lib.nDigits_small (by omega)]; omega) (by rw [Lib.nDigits_small (by omega)]; omega)
theorem sgnR_div (a b : Rat) (hb : b.num ≠ 0) : sgnR (a / b) = sgnR a * sgnR b := by
  have hd : a.den * b.num.natAbs ≠ 0 := Nat.mul_ne_zero a.den_nz (by omega)
  have h := frac_parts (neg := (decide (a.num < 0) != decide (b.num < 0))) (n := a.num.natAbs * b.den) hd
  rw [← rat_quot] at h
  obtain ⟨h1, _, h3⟩ := h
  have hz : (a / b).num = 0 ↔ a.num = 0 := by
    constructor
    · intro e
      have h0 : (a / b).num.natAbs = 0 := by rw [e]; rfl
      rw [h1] at h0
      apply Classical.byContradiction
      intro hne
      have hn : 0 < a.num.natAbs * b.den := Nat.mul_pos (by omega) b.den_pos
      have := Nat.div_pos (Nat.le_of_dvd hn (Nat.gcd_dvd_right (a.den * b.num.natAbs) _)) (Nat.gcd_pos_of_pos_right _ hn)
      omega
    · intro e
      rw [e, show (0 : Int).natAbs = 0 from rfl, Nat.zero_mul, Nat.zero_div] at h1
      omega
  have hpos : 0 < a.num.natAbs * b.den ↔ a.num ≠ 0 := by
    constructor
    · rintro h e
      rw [e] at h
      simp at h
    · intro hne
      exact Nat.mul_pos (by omega) b.den_pos
  rw [hpos] at h3
  unfold sgnR
  by_cases h0 : a.num = 0
  · have hq := hz.2 h0
    rw [if_neg (by omega), if_pos hq, if_neg (by omega), if_pos h0, Int.zero_mul]
  · have hq : (a / b).num ≠ 0 := fun e => h0 (hz.1 e)
    rcases Int.lt_or_gt_of_ne h0 with ha | ha <;> rcases Int.lt_or_gt_of_ne hb with hb' | hb'
    · have : ¬ (a / b).num < 0 := fun e => by have := (h3.1 e).1; rw [decide_eq_true ha, decide_eq_true hb'] at this; cases this
      rw [if_neg this, if_neg hq, if_pos ha, if_pos hb']; rfl
    · have : (a / b).num < 0 := h3.2 ⟨by rw [decide_eq_true ha, decide_eq_false (by omega)]; rfl, h0⟩
      rw [if_pos this, if_pos ha, if_neg (by omega), if_neg hb]; rfl
    · have : (a / b).num < 0 := h3.2 ⟨by rw [decide_eq_false (by omega), decide_eq_true hb']; rfl, h0⟩
      rw [if_pos this, if_neg (by omega), if_neg h0, if_pos hb']; rfl
    · have : ¬ (a / b).num < 0 := fun e => by have := (h3.1 e).1; rw [decide_eq_false (by omega), decide_eq_false (by omega)] at this; cases this
      rw [if_neg this, if_neg hq, if_neg (by omega), if_neg h0, if_neg (by omega), if_neg hb]; rfl
theorem div_sub (a b c : Rat) : a / c - b / c = (a - b) / c := by
  rw [Rat.div_def, Rat.div_def, Rat.div_def, Rat.sub_eq_add_neg, Rat.sub_eq_add_neg, Rat.add_mul, Rat.neg_mul]
theorem sgnR_neg (q : Rat) : sgnR (-q) = -sgnR q := by
  unfold sgnR
  have : (-q).num = -q.num := rfl
  rw [this]
  rcases Int.lt_trichotomy q.num 0 with h | h | h
  · rw [if_neg (by omega), if_neg (by omega), if_pos h]; rfl
  · rw [h]; rfl
  · rw [if_pos (by omega), if_neg (by omega), if_neg (by omega)]

/-! ### The run -/
section
variable {w0 : World} {env : List (Leaf rs3)} {r : List Entry}
theorem kE {q : Rat} (h : Kept1 q = true) : keptE q = 0 ∧ keptQ q = q := ⟨if_pos h, if_pos h⟩
theorem told_addK {i j k : Nat} {p q t : Rat} {L : Nat} (hi : env[i]? = some (leafR p)) (hj : env[j]? = some (leafR q)) (hk : env[k]? = some (leafR t)) (he : p + q = t) (hp : RatLe p L) (hq : RatLe q L) (hL : L ≤ 1000000) (hr : RatLe (p + q) 2222) (hLd : Laid w0) (K : TI w0 env r) :
    TI w0 env ((39, A2 (tg i) (tg j), A2 (tg k) (vi 0)) :: r) := by
  refine told_e2 ⟨_, Tryz.func39, rfl⟩ (fun w v u hw hv hu => ?_) K
  refine (addS_calls w v u p q L ((at_leaf hi).1 hv) ((at_leaf hj).1 hu) hp hq hL (hr.mono (by decide)) (hLd.pow.below hw)).mono ?_
  rintro e w' ⟨v', rfl, h1, h2⟩
  have h := kE (kept_of_le hr (by decide) (by decide))
  rw [h.1]
  rw [h.2, he] at h1
  exact ⟨_, rfl, pk2 ((at_leaf hk).2 h1) rfl, h2⟩
theorem told_subK {i j k : Nat} {p q t : Rat} {L : Nat} (hi : env[i]? = some (leafR p)) (hj : env[j]? = some (leafR q)) (hk : env[k]? = some (leafR t)) (he : p - q = t) (hp : RatLe p L) (hq : RatLe q L) (hL : L ≤ 1000000) (hr : RatLe (p - q) 2222) (hLd : Laid w0) (K : TI w0 env r) :
    TI w0 env ((40, A2 (tg i) (tg j), A2 (tg k) (vi 0)) :: r) := by
  refine told_e2 ⟨_, Tryz.func40, rfl⟩ (fun w v u hw hv hu => ?_) K
  refine (subS_calls w v u p q L ((at_leaf hi).1 hv) ((at_leaf hj).1 hu) hp hq hL (hr.mono (by decide)) (hLd.pow.below hw)).mono ?_
  rintro e w' ⟨v', rfl, h1, h2⟩
  have h := kE (kept_of_le hr (by decide) (by decide))
  rw [h.1]
  rw [h.2, he] at h1
  exact ⟨_, rfl, pk2 ((at_leaf hk).2 h1) rfl, h2⟩
theorem told_mulK {i j k : Nat} {p q t : Rat} {L : Nat} (hi : env[i]? = some (leafR p)) (hj : env[j]? = some (leafR q)) (hk : env[k]? = some (leafR t)) (he : p * q = t) (hp : RatLe p L) (hq : RatLe q L) (hL : L ≤ 1000000) (hr : RatLe (p * q) 2222) (hLd : Laid w0) (K : TI w0 env r) :
    TI w0 env ((41, A2 (tg i) (tg j), A2 (tg k) (vi 0)) :: r) := by
  refine told_e2 ⟨_, Tryz.func41, rfl⟩ (fun w v u hw hv hu => ?_) K
  refine (mulS_calls w v u p q L ((at_leaf hi).1 hv) ((at_leaf hj).1 hu) hp hq hL (hr.mono (by decide)) (hLd.pow.below hw)).mono ?_
  rintro e w' ⟨v', rfl, h1, h2⟩
  have h := kE (kept_of_le hr (by decide) (by decide))
  rw [h.1]
  rw [h.2, he] at h1
  exact ⟨_, rfl, pk2 ((at_leaf hk).2 h1) rfl, h2⟩
theorem told_quoK {i j k : Nat} {p q t : Rat} {L : Nat} (hi : env[i]? = some (leafR p)) (hj : env[j]? = some (leafR q)) (hk : env[k]? = some (leafR t)) (he : p / q = t) (hp : RatLe p L) (hq : RatLe q L) (hL : L ≤ 1000000) (hr : RatLe (p / q) 2222) (hq0 : q.num ≠ 0) (hLd : Laid w0) (K : TI w0 env r) :
    TI w0 env ((47, A2 (tg i) (tg j), A2 (tg k) (vi 0)) :: r) := by
  refine told_e2 ⟨_, Tryz.func47, rfl⟩ (fun w v u hw hv hu => ?_) K
  refine (quoS_calls w v u p q L ((at_leaf hi).1 hv) ((at_leaf hj).1 hu) hp hq hL (hr.mono (by decide)) hq0 (hLd.pow.below hw)).mono ?_
  rintro e w' ⟨v', rfl, h1, h2⟩
  have h := kE (kept_of_le hr (by decide) (by decide))
  rw [h.1]
  rw [h.2, he] at h1
  exact ⟨_, rfl, pk2 ((at_leaf hk).2 h1) rfl, h2⟩
end

-- 0 1 2 the strings; 3 4 5 fractions of the reference; 6 7 8 of the program; 9 the sum; 10 its product; 11 12 products; 13 -x; 14 15 quotients; 16.. texts; 20: 0
def envF (s t u : ByteArray) (x y z : Rat) : List (Leaf rs3) :=
  [leafS s, leafS t, leafS u, leafQ x, leafQ y, leafQ z, leafR x, leafR y, leafR z, leafR (x + y), leafR ((x + y) * z), leafR (x * z), leafR (y * z), leafR (-x), leafR (x / z), leafR (y / z),
   leafS (textQ x), leafS (textQ (x + y)), leafS (textQ ((x + y) * z)), leafI 0, leafR 0]
def shF : List Sh := [.str, .str, .str, shQ, shQ, shQ, shR, shR, shR, shR, shR, shR, shR, shR, shR, shR, .str, .str, .str, .one, shR]
def scriptF (c d sx sn sz : Int) (quo : List Entry) : List Entry :=
  (30, A2 (tg 0) (vi 300), A1 (tg 3)) :: (30, A2 (tg 1) (vi 300), A1 (tg 4)) :: (30, A2 (tg 2) (vi 300), A1 (tg 5)) ::
  (31, A1 (tg 3), A1 (tg 6)) :: (31, A1 (tg 4), A1 (tg 7)) :: (31, A1 (tg 5), A1 (tg 8)) ::
  (39, A2 (tg 6) (tg 7), A2 (tg 9) (vi 0)) :: (39, A2 (tg 7) (tg 6), A2 (tg 9) (vi 0)) :: (41, A2 (tg 9) (tg 8), A2 (tg 10) (vi 0)) :: (41, A2 (tg 6) (tg 8), A2 (tg 11) (vi 0)) ::
  (41, A2 (tg 7) (tg 8), A2 (tg 12) (vi 0)) :: (39, A2 (tg 11) (tg 12), A2 (tg 10) (vi 0)) :: (13, A1 (tg 9), A1 (tg 17)) :: (13, A1 (tg 10), A1 (tg 18)) :: (13, A1 (tg 6), A1 (tg 16)) ::
  (40, A2 (tg 9) (tg 7), A2 (tg 6) (vi 0)) :: (44, A2 (tg 6) (tg 6), A1 (vi 0)) :: (44, A2 (tg 6) (tg 7), A1 (vi c)) :: (44, A2 (tg 7) (tg 6), A1 (vi d)) ::
  (46, A1 (tg 6), A1 (tg 13)) :: (17, A1 (tg 13), A1 (vi sn)) :: (17, A1 (tg 6), A1 (vi sx)) :: (17, A1 (tg 8), A1 (vi sz)) :: (14, .nil, A1 (vb true)) :: quo
def quoFZ : List Entry := [(47, A2 (tg 6) (tg 8), A2 (tg 20) (vi 6))]
def quoFN (e : Int) : List Entry := [(47, A2 (tg 11) (tg 8), A2 (tg 6) (vi 0)), (47, A2 (tg 10) (tg 8), A2 (tg 9) (vi 0)), (47, A2 (tg 6) (tg 8), A2 (tg 14) (vi 0)), (47, A2 (tg 7) (tg 8), A2 (tg 15) (vi 0)), (44, A2 (tg 14) (tg 15), A1 (vi e))]

theorem le1 {q : Rat} (h : RatLe q 34) : RatLe q 300 := h.mono (by decide)
set_option maxRecDepth 100000 in
set_option maxHeartbeats 8000000 in
theorem field_told {w : World} {s t u : ByteArray} {x y z : Rat} (hx : x = rq s.data.toList 300) (hy : y = rq t.data.toList 300) (hz : z = rq u.data.toList 300) (hs : s.size ≤ 9223372036854775807) (ht : t.size ≤ 9223372036854775807) (hu : u.size ≤ 9223372036854775807) (hL : Laid w)
    {c d sx sn sz : Int} (hc : sgnR (x - y) = c) (hd : sgnR (y - x) = d) (hsx : sgnR x = sx) (hsn : sgnR (-x) = sn) (hsz : sgnR z = sz) {quo : List Entry} (K : TI w (envF s t u x y z) quo) : TI w (envF s t u x y z) (scriptF c d sx sn sz quo) := by
  have lx : RatLe x 34 := by rw [hx]; exact rq_small _
  have ly : RatLe y 34 := by rw [hy]; exact rq_small _
  have lz : RatLe z 34 := by rw [hz]; exact rq_small _
  have kx : Kept1 x = true := by rw [hx]; exact rq_kept _ _
  have ky : Kept1 y = true := by rw [hy]; exact rq_kept _ _
  have kz : Kept1 z = true := by rw [hz]; exact rq_kept _ _
  have la : RatLe (x + y) 69 := (ratLe_add lx ly).mono (by decide)
  have lc : RatLe ((x + y) * z) 103 := (ratLe_mul la lz).mono (by decide)
  have l1 : RatLe (x * z) 68 := (ratLe_mul lx lz).mono (by decide)
  have l2 : RatLe (y * z) 68 := (ratLe_mul ly lz).mono (by decide)
  refine told_read rfl (by rw [hx]; rfl) hs (by decide) rfl <| told_read rfl (by rw [hy]; rfl) ht (by decide) rfl <| told_read rfl (by rw [hz]; rfl) hu (by decide) rfl <| told_rat rfl rfl kx hL <| told_rat rfl rfl ky hL <| told_rat rfl rfl kz hL <|
    told_addK rfl rfl rfl rfl lx ly (by decide) (la.mono (by decide)) hL <| told_addK rfl rfl rfl (Rat.add_comm y x) ly lx (by decide) (by rw [Rat.add_comm]; exact la.mono (by decide)) hL <|
    told_mulK rfl rfl rfl rfl la (lz.mono (by decide)) (by decide) (lc.mono (by decide)) hL <| told_mulK rfl rfl rfl rfl lx lz (by decide) (l1.mono (by decide)) hL <| told_mulK rfl rfl rfl rfl ly lz (by decide) (l2.mono (by decide)) hL <|
    told_addK rfl rfl rfl (Rat.add_mul x y z).symm l1 l2 (by decide) (by rw [← Rat.add_mul]; exact lc.mono (by decide)) hL <|
    told_str rfl rfl (la.mono (by decide)) hL <| told_str rfl rfl (lc.mono (by decide)) hL <| told_str rfl rfl (lx.mono (by decide)) hL <|
    told_subK rfl rfl rfl Rat.add_sub_cancel la (ly.mono (by decide)) (by decide) (by rw [Rat.add_sub_cancel]; exact lx.mono (by decide)) hL <|
    told_cmpR rfl rfl lx lx (by decide) (by rw [Rat.sub_self]; rfl) <| told_cmpR rfl rfl lx ly (by decide) hc <| told_cmpR rfl rfl ly lx (by decide) hd <|
    told_negR rfl rfl <| told_sgnR rfl hsn <| told_sgnR rfl hsx <| told_sgnR rfl hsz <| told_awake hL ?_
  exact K

set_option maxRecDepth 100000 in
set_option maxHeartbeats 8000000 in
/-- **NumField.** -/
theorem numField_walk (w : World) (s t u : ByteArray) (hs : s.size ≤ 9223372036854775807) (ht : t.size ≤ 9223372036854775807) (hu : u.size ≤ 9223372036854775807) (hL : Laid w) :
    CallsIn Fence.wide 0 Tryz.prog 7 #[.string s, .string t, .string u] w fun e w' => e = .returned (.bool true) ∧ Below w.heap.size w w' := by
  obtain ⟨x, hx⟩ : ∃ x, x = rq s.data.toList 300 := ⟨_, rfl⟩
  obtain ⟨y, hy⟩ : ∃ y, y = rq t.data.toList 300 := ⟨_, rfl⟩
  obtain ⟨z, hz⟩ : ∃ z, z = rq u.data.toList 300 := ⟨_, rfl⟩
  have lx : RatLe x 34 := by rw [hx]; exact rq_small _
  have ly : RatLe y 34 := by rw [hy]; exact rq_small _
  have lz : RatLe z 34 := by rw [hz]; exact rq_small _
  have la : RatLe (x + y) 69 := (ratLe_add lx ly).mono (by decide)
  have lc : RatLe ((x + y) * z) 103 := (ratLe_mul la lz).mono (by decide)
  have l1 : RatLe (x * z) 68 := (ratLe_mul lx lz).mono (by decide)
  have key : ∀ {L : List Entry}, TI w (envF s t u x y z) L → runF Tryz.prog (clsL shF) (lookT L) rs3 [] 80 7 (A3 (tg 0) (tg 1) (tg 2)) = some (A1 (vb true)) → CallsIn Fence.wide 0 Tryz.prog 7 #[.string s, .string t, .string u] w fun e w' => e = .returned (.bool true) ∧ Below w.heap.size w w' := by
    intro L hT hr
    refine (run_script follows namesOK (S := shF) rfl hT hr (xs := #[.string s, .string t, .string u]) (ps3 rfl rfl rfl)).mono ?_
    rintro e w' ⟨v, rfl, hv, hB⟩
    have hv : some (Value.bool true) = some v := hv
    cases hv
    exact ⟨rfl, hB⟩
  have hd : ∀ c, sgnR (x - y) = c → sgnR (y - x) = -c := fun c hc => by
    rw [← hc, ← sgnR_neg, Rat.neg_sub]
  have told : ∀ c sx sz : Int, sgnR (x - y) = c → sgnR x = sx → sgnR z = sz → ∀ quo : List Entry, TI w (envF s t u x y z) quo → TI w (envF s t u x y z) (scriptF c (-c) sx (-sx) sz quo) := fun c sx sz hc hsx hsz quo K =>
    field_told hx hy hz hs ht hu hL hc (hd c hc) hsx (by rw [sgnR_neg, hsx]) hsz K
  by_cases hz0 : z.num = 0
  · have hsz : sgnR z = 0 := sgnR_zero hz0
    have KZ : TI w (envF s t u x y z) quoFZ := told_quo0 rfl rfl rfl hz0 told_nil
    rcases sgnR_three (x - y) with hc | hc | hc <;> rcases sgnR_three x with hsx | hsx | hsx
    all_goals exact key (told _ _ _ hc hsx hsz _ KZ) (by kernel_rfl)
  · have hzr : z ≠ 0 := fun e => hz0 (by rw [e]; rfl)
    have KN : ∀ c sz, sgnR (x - y) = c → sgnR z = sz → TI w (envF s t u x y z) (quoFN (c * sz)) := fun c sz hc hsz =>
      told_quoK rfl rfl rfl (Rat.mul_div_cancel hzr) l1 (lz.mono (by decide)) (by decide) (by rw [Rat.mul_div_cancel hzr]; exact lx.mono (by decide)) hz0 hL <|
      told_quoK rfl rfl rfl (Rat.mul_div_cancel hzr) lc (lz.mono (by decide)) (by decide) (by rw [Rat.mul_div_cancel hzr]; exact la.mono (by decide)) hz0 hL <|
      told_quoK rfl rfl rfl rfl lx lz (by decide) ((ratLe_div lx lz).mono (by decide)) hz0 hL <|
      told_quoK rfl rfl rfl rfl ly lz (by decide) ((ratLe_div ly lz).mono (by decide)) hz0 hL <|
      told_cmpR rfl rfl (ratLe_div lx lz) (ratLe_div ly lz) (by decide) (by rw [div_sub, sgnR_div _ _ hz0, hc, hsz]) told_nil
    have hz3 : sgnR z = -1 ∨ sgnR z = 1 := by
      rcases sgnR_three z with h | h | h
      · exact .inl h
      · exact absurd h (sgnR_ne hz0)
      · exact .inr h
    rcases hz3 with hsz | hsz <;> rcases sgnR_three (x - y) with hc | hc | hc <;> rcases sgnR_three x with hsx | hsx | hsx
    all_goals exact key (told _ _ _ hc hsx hsz _ (KN _ _ hc hsz)) (by kernel_rfl)
end Go.Num
