/-
  What the program's 'isDigits' and 'parse' answer.
  Conditions: none.
-/
import Derived.Test.YtoamcgjbelhnkaaGreatDoorStrY
import Derived.Test.YtoamcgjbelhnkaaGreatDoorTxtX
import Derived.Test.YtoamcgjbelhnkaaGreatDoorAwkX

namespace Go.Num
open Go.Eng Go.Shelf Go.RowKit Go.Sort Go.Proofs Go.Proofs.YtoamcgjbelhnkaaGreatDoor

abbrev digitsB : ByteArray := { data := #[48, 49, 50, 51, 52, 53, 54, 55, 56, 57] }
theorem digits_has (b : UInt8) : digitsB.data.toList.contains b = isDig b := by
  have h : digitsB.data.toList = [48, 49, 50, 51, 52, 53, 54, 55, 56, 57] := rfl
  rw [h, Bool.eq_iff_iff]
  unfold isDig
  simp only [List.contains_eq_mem, List.mem_cons, List.not_mem_nil, or_false, decide_eq_true_eq]
  constructor
  · rintro (rfl | rfl | rfl | rfl | rfl | rfl | rfl | rfl | rfl | rfl) <;> decide
  · intro h
    have hb : b.toNat = 48 ∨ b.toNat = 49 ∨ b.toNat = 50 ∨ b.toNat = 51 ∨ b.toNat = 52 ∨ b.toNat = 53 ∨ b.toNat = 54 ∨ b.toNat = 55 ∨ b.toNat = 56 ∨ b.toNat = 57 := by omega
    rcases hb with h | h | h | h | h | h | h | h | h | h
    all_goals
      have : b = UInt8.ofNat b.toNat := UInt8.ofNat_toNat.symm
      rw [this, h]
      decide
theorem dropWhile_nil {p : UInt8 → Bool} {l : List UInt8} : l.dropWhile p = [] ↔ l.all p = true := by
  induction l with
  | nil => simp
  | cons b r ih =>
    rw [List.dropWhile_cons]
    split
    · rename_i h; rw [ih]; simp [h]
    · rename_i h; simp [h]
theorem trim_digits (l : List UInt8) : (Lib.trimS l digitsB.data.toList = []) ↔ l.all isDig = true := by
  have hp : (fun b => digitsB.data.toList.contains b) = isDig := funext digits_has
  unfold Lib.trimS Lib.trimLeftS Lib.trimRightS
  rw [hp, dropWhile_nil, List.all_reverse]
  constructor
  · intro h
    have e : l.reverse = l.reverse.takeWhile isDig ++ l.reverse.dropWhile isDig := (List.takeWhile_append_dropWhile).symm
    have h2 : l.reverse.all isDig = true := by
      rw [e, List.all_append, List.all_takeWhile, h]; rfl
    rwa [List.all_reverse] at h2
  · intro h
    have h2 : l.reverse.dropWhile isDig = [] := dropWhile_nil.2 (by rw [List.all_reverse]; exact h)
    rw [h2]; rfl
theorem trimD_calls (w : World) (s : ByteArray) (hs : s.size ≤ 100000) :
    CallsIn Fence.wide 0 Tryz.prog 105 #[.string s, .string digitsB] w fun e w' => ∃ t : ByteArray, e = .returned (.string t) ∧ (t.data.toList = [] ↔ s.data.toList.all isDig = true) ∧ Below w.heap.size w w' := by
  refine callsIn_wide.2 ((Any.strings_Trim_laid Tryz.lays160 (by kernel_rfl) s digitsB w (by omega) (by decide) (ascii_of_all (by decide))).mono ?_)
  rintro e w' ⟨rfl, hB⟩
  exact ⟨_, rfl, trim_digits _, hB⟩

theorem empty_is {l : List UInt8} {b : Bool} (h : l = [] ↔ b = true) : l.isEmpty = b := by
  rw [Bool.eq_iff_iff, ← h]
  cases l <;> simp
theorem head_of (s : ByteArray) (h : 0 < s.size) : s.data.toList = s[0] :: s.data.toList.tail := by
  obtain ⟨⟨l⟩⟩ := s
  cases l with
  | nil => exact absurd h (by decide)
  | cons b r => rfl
theorem canon_zero {b : UInt8} {r : List UInt8} (h : b.toNat = 48) (hne : b :: r ≠ [48]) : canon (b :: r) = false := by
  have hb : b = 48 := UInt8.toNat_inj.1 h
  subst hb
  unfold canon
  have : (48 :: r == [48]) = false := beq_false_of_ne hne
  rw [this]; simp
theorem canon_other {b : UInt8} {r : List UInt8} (h : ¬ b.toNat = 48) : canon (b :: r) = (b :: r).all isDig := by
  have hb : b ≠ 48 := fun e => h (by rw [e]; rfl)
  unfold canon
  have : ((b :: r).head? == some 48) = false := by simp [hb]
  rw [this]; simp
theorem canon_zero' (s : ByteArray) (h0 : 0 < s.size) (h : (s[0].toNat : Int) = 48) (hne : ¬ s.toList = [48]) : canon s.data.toList = false := by
  rw [Lib.toList_data] at hne
  rw [head_of s h0] at hne ⊢
  exact canon_zero (by omega) hne
theorem canon_other' (s : ByteArray) (h0 : 0 < s.size) (h : ¬ (s[0].toNat : Int) = 48) : canon s.data.toList = s.data.toList.all isDig := by
  rw [head_of s h0]
  exact canon_other (by omega)

set_option maxRecDepth 100000 in
set_option maxHeartbeats 8000000 in
/-- **'isDigits'.** -/
theorem isDigits_calls (w : World) (s : ByteArray) (hs : s.size ≤ 100000) :
    CallsIn Fence.wide 0 Tryz.prog 61 #[.string s] w fun e w' => e = .returned (.bool (canon s.data.toList)) ∧ Below w.heap.size w w' := by
  have HS := Hid.intro hs
  refine callsIn_of_wp Tryz.func61 rfl trivial ?_ rfl
  simp only [Tryz.ntmps61, List.size_toArray, List.length_cons, List.length_nil, Nat.reduceAdd, Nat.reduceSub, Array.replicate_succ, Array.replicate_zero, List.push_toArray, List.append_toArray, List.nil_append, List.cons_append]
  gi_wp2_with (gi_at_call 105; refine stop ?_)
  · have h : s.toList = [] := by assumption
    all_goals (first | go_returns | go_ret | go_end0)
    rw [Lib.toList_data] at h
    exact ⟨by rw [h]; rfl, Below.refl _ _⟩
  · have h : s.toList = [48] := by assumption
    rw [Lib.toList_data] at h
    have HC : Hid (canon s.data.toList = s.data.toList.all isDig) := Hid.intro (by rw [h]; rfl)
    clear h
    unfold Stop
    refine (trimD_calls w s hs).mono ?_
    rintro e w2 ⟨t, rfl, ht, hB⟩
    rw [← Lib.toList_data] at ht
    have HT := Hid.intro ht
    have HB := Hid.intro hB
    clear ht hB
    gi_wp2
    all_goals (first | go_returns | go_ret | go_end0)
    refine ⟨?_, HB.out⟩
    rw [HC.out]
    show Ending.returned (Value.bool t.toList.isEmpty) = Ending.returned (Value.bool _)
    rw [empty_is HT.out]
  · have h1 : (s[0].toNat : Int) = 48 := by assumption
    have h2 : ¬ s.toList = [48] := by assumption
    all_goals (first | go_returns | go_ret | go_end0)
    exact ⟨by rw [canon_zero' s (by assumption) h1 h2]; rfl, Below.refl _ _⟩
  · have h1 : ¬ (s[0].toNat : Int) = 48 := by assumption
    have HC : Hid (canon s.data.toList = s.data.toList.all isDig) := Hid.intro (canon_other' s (by assumption) h1)
    clear h1
    unfold Stop
    refine (trimD_calls w s hs).mono ?_
    rintro e w2 ⟨t, rfl, ht, hB⟩
    rw [← Lib.toList_data] at ht
    have HT := Hid.intro ht
    have HB := Hid.intro hB
    clear ht hB
    have hne : ¬ s.toList = [] := by assumption
    have hne' : s.toList.isEmpty = false := by cases hc : s.toList with | nil => exact absurd hc hne | cons _ _ => rfl
    gi_wp2
    all_goals (first | go_returns | go_ret | go_end0)
    refine ⟨?_, HB.out⟩
    rw [HC.out]
    show Ending.returned (Value.bool ((s.toList == [48] || (s[0].toNat : Int) != 48) && t.toList.isEmpty)) = Ending.returned (Value.bool _)
    have hx : ((s[0].toNat : Int) != 48) = true := by simpa using (by assumption : ¬ (s[0].toNat : Int) = 48)
    rw [hx, Bool.or_true, Bool.true_and, empty_is HT.out]
  · exfalso
    have h1 : ¬ s.toList = [] := by assumption
    have h2 : ¬ 0 < s.size := by assumption
    rw [Lib.toList_data] at h1
    rw [Lib.size_eq] at h2
    exact h1 (List.eq_nil_of_length_eq_zero (by omega))
end Go.Num

namespace Go.Num
open Go.Eng Go.Shelf Go.RowKit Go.Sort Go.Proofs Go.Proofs.YtoamcgjbelhnkaaGreatDoor

theorem parseU_calls (w : World) (s : ByteArray) (l : List UInt8) (hl : s.data.toList = l) (hd : l.all isDig = true) (hn : l ≠ []) (h9 : l.length ≤ 9) :
    CallsIn Fence.wide 0 Tryz.prog 106 #[.string s, .int .i64 10, .int .i64 64] w fun e w' => e = .returned (.tuple #[.int .u64 (decVal l : Int), .nilIface]) ∧ Below w.heap.size w w' := by
  subst hl
  refine callsIn_wide.2 ((Tryz.strconv_ParseUint_10_at64_ok s (by rw [Lib.size_eq]; omega) (decVal s.data.toList) (parse_short hd hn h9) w).mono ?_)
  rintro e w' ⟨rfl, rfl | rfl⟩
  · exact ⟨rfl, Below.refl _ _⟩
  · exact ⟨rfl, bytesW_below _ _⟩
theorem ext_take {t : ByteArray} {l : List UInt8} {m k : Nat} (h : t.data.toList = l.take m) (hk : k ≤ m) : (t.extract 0 k).data.toList = l.take k := by
  rw [Lib.extract_eq]
  show (List.take (k - 0) (List.drop 0 t.data.toList)) = _
  rw [h, List.drop_zero, Nat.sub_zero, List.take_take, Nat.min_eq_left hk]
theorem ext_drop {t : ByteArray} {l : List UInt8} {m k : Nat} (h : t.data.toList = l.take m) (ht : t.size = m) : (t.extract k m).data.toList = (l.take m).drop k := by
  rw [Lib.extract_eq]
  show (List.take (m - k) (List.drop k t.data.toList)) = _
  rw [List.take_of_length_le (by rw [List.length_drop, ← Lib.size_eq]; omega), h]
theorem ownsRow_below2 {w w' : World} {base : Nat} {e : TypeId} {size n : Nat} {v : Value} {xs : List Value} (h : w.ownsRow base e size v n xs) (hb : Below w.heap.size w w') : w'.ownsRow base e size v n xs := by
  refine ⟨h.1, ?_⟩
  rcases h.2 with h | ⟨g, cap, cur, h1, h2, h3, h4⟩
  · exact .inl h
  · refine .inr ⟨g, cap, cur, h1, h2, ?_, h4⟩
    rw [hb.block g (Array.getElem?_eq_some_iff.1 h3).1]; exact h3
def strLen : Value → Nat
  | .string s => s.size
  | _ => 0

set_option maxRecDepth 100000 in
set_option maxHeartbeats 8000000 in
/-- **'parse'.** -/
theorem parse_calls (w : World) (s : ByteArray) (l : List UInt8) (hl : s.data.toList = l) (hd : l.all isDig = true) (hn : l.length ≤ 100000) :
    CallsIn Fence.wide 0 Tryz.prog 62 #[.string s] w fun e w' => ∃ v', e = .returned v' ∧ MagAt w' v' (decVal l) ∧ Below w.heap.size w w' := by
  have hsz : s.size = l.length := by rw [Lib.size_eq, hl]
  have HD := Hid.intro hd
  have HL : Hid (s.data.toList = l.take l.length) := Hid.intro (by rw [List.take_length]; exact hl)
  clear hl hd
  obtain ⟨n, hnl⟩ : ∃ n, l.length = n := ⟨_, rfl⟩
  have HNL := Hid.intro hnl
  rw [hnl] at hsz hn HL
  clear hnl
  refine callsIn_of_wp Tryz.func62 rfl trivial ?_ rfl
  simp only [Tryz.ntmps62, List.size_toArray, List.length_cons, List.length_nil, Nat.reduceAdd, Nat.reduceSub, Array.replicate_succ, Array.replicate_zero, List.push_toArray, List.append_toArray, List.nil_append, List.cons_append]
  gi_wp2
  gi_loopw [0, 3] (fun v0 v3 wr => ∃ (i m : Nat) (t : ByteArray), v0 = .string t ∧ t.size = m ∧ m ≤ n ∧ Hid (t.data.toList = l.take m) ∧ Hid (m + 9 * i = n ∨ m = 0 ∧ n ≤ 9 * i) ∧ i ≤ n ∧ Hid (wr.ownsRow w.heap.size 111 1 v3 i (firstL (decVal l) i)) ∧ Hid (Below w.heap.size w wr)) (fun v _ _ => strLen v)
  case atStart => exact ⟨0, n, s, rfl, hsz, Nat.le_refl _, HL, Hid.intro (.inl (by omega)), by omega, World.ownsRow_nil _ _ _ _, Below.refl _ w⟩
  case round =>
    obtain ⟨i, m, t, rfl, ht, hm, HT, HI, hi, HO, HBr⟩ := hrel
    by_cases h0 : 0 < m
    · have hMI : m + 9 * i = n := by rcases HI.out with h | h <;> omega
      have HC : Hid (decVal ((l.take m).drop (m - 9)) = limb (decVal l) i) := Hid.intro (chunk_limb HD.out (by rw [HNL.out]; exact hMI))
      have hlen : (l.take m).length = m := by rw [List.length_take, HNL.out]; omega
      have HLen := Hid.intro hlen
      have HMI := Hid.intro hMI
      clear hlen hMI
      obtain ⟨k, hk⟩ : ∃ k, m - 9 = k := ⟨_, rfl⟩
      have hmx : max (0 : Int) ((m : Int) - 9) = (k : Int) := by omega
      rw [hk] at HC
      gi_wp2_with (gi_at_call 106; refine stop ?_)
      unfold Stop
      have hkm : k < m := by omega
      refine (parseU_calls wr (t.extract k m) ((l.take m).drop k) (ext_drop HT.out ht) (all_drop (all_take HD.out m) k) ?_ ?_).mono ?_
      · intro e
        have := congrArg List.length e
        rw [List.length_drop, HLen.out] at this
        simp at this; omega
      · rw [List.length_drop, HLen.out]; omega
      rintro e w2 ⟨rfl, hB⟩
      rw [HC.out]
      have HO2 := Hid.intro (ownsRow_below2 HO.out hB)
      have HB2 := Hid.intro (HBr.out.trans (hB.mono HBr.out.size))
      clear hB
      gi_wp2_with (gi_at_builtin; refine stop ?_)
      unfold Stop
      refine append_limb w w2 rfl _ _ rfl u3 i (decVal l) rfl HO2 _ _ rfl rfl (by omega) HB2 ?_
      intro v2 w3 HO3 HB3
      gi_wp2
      have hx := ext_take HT.out (Nat.le_of_lt hkm)
      have hxs : (t.extract 0 k).size = k := by rw [Lib.size_eq, hx, List.length_take, HNL.out]; omega
      refine ⟨⟨i + 1, k, _, rfl, hxs, by omega, hx, ?_, by have := HMI.out; omega, HO3, HB3⟩, by simp only [strLen]; omega⟩
      have := HMI.out
      refine Hid.intro ?_
      omega
    · have hm0 : m = 0 := by omega
      subst hm0
      have HLT : Hid (decVal l < B ^ i) := Hid.intro (val_limbs HD.out (by have := HI.out; rw [HNL.out]; omega))
      have HRow : Hid (LimbsAt wr u3 (decVal l) i) := Hid.intro (row_limbs HO.out (by omega))
      gi_wp2_with (gi_at_call 107; refine stop ?_)
      unfold Stop
      refine (trim_calls wr u3 (decVal l) i HRow.out HLT.out).mono ?_
      rintro e w2 ⟨v', rfl, ⟨hM, _⟩, hB⟩
      have HM := Hid.intro hM
      have HB := Hid.intro (HBr.out.trans (hB.mono HBr.out.size))
      clear hM hB
      gi_wp2
      all_goals (first | go_returns | go_ret | go_end0)
      exact ⟨_, rfl, HM.out, HB.out⟩
end Go.Num
