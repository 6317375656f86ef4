/-
  Texts of integers and fractions: plain laws.
  Conditions: none.
-/
import Derived.Test.YtoamcgjbelhnkaaGreatDoorNumX
import Derived.Lib.ParseIntBCases
import Derived.Lib.AtoiTie
import Derived.Lib.IndexMore

namespace Go.Num
open Go.Lib

def isDig (b : UInt8) : Bool := decide (48 ≤ b.toNat ∧ b.toNat ≤ 57)
/-- The number of a row of digits. -/
def decVal (l : List UInt8) : Nat := l.foldl (fun a b => 10 * a + (b.toNat - 48)) 0
theorem foldl_val (l : List UInt8) : ∀ a : Nat, l.foldl (fun a b => 10 * a + (b.toNat - 48)) a = a * 10 ^ l.length + decVal l := by
  induction l with
  | nil => intro a; simp [decVal]
  | cons b r ih =>
    intro a
    show r.foldl _ (10 * a + (b.toNat - 48)) = _
    have e : decVal (b :: r) = (b.toNat - 48) * 10 ^ r.length + decVal r := by
      show r.foldl _ (10 * 0 + (b.toNat - 48)) = _
      rw [ih, Nat.mul_zero, Nat.zero_add]
    rw [ih, e, List.length_cons, Nat.pow_succ, Nat.add_mul, Nat.add_assoc, Nat.mul_comm 10 a, Nat.mul_assoc, Nat.mul_comm 10]
theorem decVal_append (a b : List UInt8) : decVal (a ++ b) = decVal a * 10 ^ b.length + decVal b := by
  show (a ++ b).foldl _ 0 = _
  rw [List.foldl_append, foldl_val]
  rfl
theorem decVal_one (b : UInt8) : decVal [b] = b.toNat - 48 := by simp [decVal]
theorem decVal_cons (b : UInt8) (r : List UInt8) : decVal (b :: r) = (b.toNat - 48) * 10 ^ r.length + decVal r := by
  have := decVal_append [b] r
  rw [decVal_one] at this
  exact this
theorem decVal_nil : decVal [] = 0 := rfl
theorem decVal_last (a : List UInt8) (b : UInt8) : decVal (a ++ [b]) = decVal a * 10 + (b.toNat - 48) := by
  rw [decVal_append, decVal_one]; simp
theorem isDig_lt {b : UInt8} (h : isDig b = true) : b.toNat - 48 < 10 := by
  have := of_decide_eq_true h; omega
theorem decVal_lt {l : List UInt8} (h : l.all isDig = true) : decVal l < 10 ^ l.length := by
  induction l with
  | nil => simp [decVal]
  | cons b r ih =>
    simp only [List.all_cons, Bool.and_eq_true] at h
    have h1 := isDig_lt h.1
    have h2 := ih h.2
    have e : decVal (b :: r) = (b.toNat - 48) * 10 ^ r.length + decVal r := decVal_cons b r
    rw [e, List.length_cons, Nat.pow_succ, Nat.mul_comm _ 10]
    have : (b.toNat - 48) * 10 ^ r.length ≤ 9 * 10 ^ r.length := Nat.mul_le_mul_right _ (by omega)
    omega
theorem all_take {l : List UInt8} (h : l.all isDig = true) (m : Nat) : (l.take m).all isDig = true := by
  rw [List.all_eq_true] at h ⊢
  exact fun x hx => h x (List.mem_of_mem_take hx)
theorem all_drop {l : List UInt8} (h : l.all isDig = true) (m : Nat) : (l.drop m).all isDig = true := by
  rw [List.all_eq_true] at h ⊢
  exact fun x hx => h x (List.mem_of_mem_drop hx)
/-- The upper digits. -/
theorem decVal_take {l : List UInt8} (h : l.all isDig = true) (m : Nat) : decVal (l.take m) = decVal l / 10 ^ (l.length - m) := by
  have e : decVal l = decVal (l.take m) * 10 ^ (l.length - m) + decVal (l.drop m) := by
    have := decVal_append (l.take m) (l.drop m)
    rw [List.take_append_drop, List.length_drop] at this
    exact this
  have h2 := decVal_lt (all_drop h m)
  rw [List.length_drop] at h2
  rw [e, Nat.mul_comm, Nat.mul_add_div (Nat.pow_pos (by decide)), Nat.div_eq_of_lt h2, Nat.add_zero]
/-- The lower digits. -/
theorem decVal_drop {l : List UInt8} (h : l.all isDig = true) (m : Nat) : decVal (l.drop m) = decVal l % 10 ^ (l.length - m) := by
  have e : decVal l = decVal (l.take m) * 10 ^ (l.length - m) + decVal (l.drop m) := by
    have := decVal_append (l.take m) (l.drop m)
    rw [List.take_append_drop, List.length_drop] at this
    exact this
  have h2 := decVal_lt (all_drop h m)
  rw [List.length_drop] at h2
  rw [e, Nat.mul_comm, Nat.mul_add_mod, Nat.mod_eq_of_lt h2]

/-- Digits without leading zeros. -/
def canon (l : List UInt8) : Bool := !l.isEmpty && (l == [48] || !(l.head? == some 48)) && l.all isDig
theorem byte_digit {b : UInt8} (h : isDig b = true) : UInt8.ofNat (48 + (b.toNat - 48)) = b := by
  have := of_decide_eq_true h
  rw [show 48 + (b.toNat - 48) = b.toNat by omega]
  exact UInt8.ofNat_toNat
theorem digit_byte {d : Nat} (h : d < 10) : (UInt8.ofNat (48 + d)).toNat = 48 + d := by
  rw [UInt8.toNat_ofNat']; omega
theorem canon_dig {l : List UInt8} (h : canon l = true) : l.all isDig = true := by
  unfold canon at h; simp only [Bool.and_eq_true] at h; exact h.2
theorem canon_ne {l : List UInt8} (h : canon l = true) : l ≠ [] := by
  rintro rfl; simp [canon] at h
theorem decVal_pos : ∀ {l : List UInt8} {b : UInt8}, (b :: l).all isDig = true → b ≠ 48 → 0 < decVal (b :: l) := by
  intro l b h hb
  have e : decVal (b :: l) = (b.toNat - 48) * 10 ^ l.length + decVal l := decVal_cons b l
  simp only [List.all_cons, Bool.and_eq_true] at h
  have h1 := of_decide_eq_true h.1
  have : b.toNat ≠ 48 := fun e => hb (UInt8.toNat_inj.1 e)
  have h2 : 0 < 10 ^ l.length := Nat.pow_pos (by decide)
  have : 1 * 10 ^ l.length ≤ (b.toNat - 48) * 10 ^ l.length := Nat.mul_le_mul_right _ (by omega)
  omega
/-- Digits of a number that does not begin with 0 are its numeral. -/
theorem dec_of_digits : ∀ (n : Nat) (l : List UInt8), l.length = n + 1 → l.all isDig = true → (n = 0 ∨ l.head? ≠ some 48) → decDigits (decVal l) = l
  | 0, l, hn, hd, _ => by
    match l, hn with
    | [b], _ =>
      simp only [List.all_cons, List.all_nil, Bool.and_true] at hd
      have h1 := isDig_lt hd
      rw [decVal_one, decDigits, dif_pos h1, byte_digit hd]
  | n + 1, l, hn, hd, hh => by
    obtain ⟨a, b, rfl⟩ : ∃ a b, l = a ++ [b] := by
      have hne : l ≠ [] := by rintro rfl; simp at hn
      exact ⟨l.dropLast, l.getLast hne, (List.dropLast_concat_getLast hne).symm⟩
    rw [List.length_append, List.length_singleton] at hn
    rw [List.all_append, Bool.and_eq_true] at hd
    have hb : isDig b = true := by have := hd.2; simpa using this
    have h1 := isDig_lt hb
    have hah : a.head? ≠ some 48 := by
      rcases hh with hh | hh
      · omega
      · intro e
        apply hh
        cases a with
        | nil => simp at e
        | cons c r => simpa using e
    have hpos : 0 < decVal a := by
      cases a with
      | nil => simp at hn
      | cons c r => exact decVal_pos hd.1 (fun e => hah (by simp [e]))
    rw [decVal_last, decDigits, dif_neg (by omega), show (decVal a * 10 + (b.toNat - 48)) / 10 = decVal a by omega, show (decVal a * 10 + (b.toNat - 48)) % 10 = b.toNat - 48 by omega, byte_digit hb]
    rw [dec_of_digits n a (by omega) hd.1 (.inr hah)]
theorem dec_canon {l : List UInt8} (h : canon l = true) : decDigits (decVal l) = l := by
  have hd := canon_dig h
  have hn := canon_ne h
  obtain ⟨n, hl⟩ : ∃ n, l.length = n + 1 := by
    cases l with
    | nil => exact absurd rfl hn
    | cons a r => exact ⟨r.length, rfl⟩
  refine dec_of_digits n l hl hd ?_
  unfold canon at h
  simp only [Bool.and_eq_true, Bool.or_eq_true] at h
  rcases h.1.2 with h | h
  · left
    have : l = [48] := by simpa using h
    rw [this] at hl; simp at hl; omega
  · right
    intro e
    rw [e] at h
    simp at h
theorem dec_all (u : Nat) : (decDigits u).all isDig = true := by
  induction u using Nat.strongRecOn with
  | _ u ih =>
    rw [decDigits]
    split
    · rename_i h
      simp only [List.all_cons, List.all_nil, Bool.and_true, isDig, digit_byte h]
      exact decide_eq_true (by omega)
    · rename_i h
      rw [List.all_append, ih (u / 10) (by omega)]
      simp only [List.all_cons, List.all_nil, Bool.and_true, Bool.true_and, isDig, digit_byte (show u % 10 < 10 by omega)]
      exact decide_eq_true (by omega)
theorem val_dec (u : Nat) : decVal (decDigits u) = u := by
  induction u using Nat.strongRecOn with
  | _ u ih =>
    rw [decDigits]
    split
    · rename_i h
      rw [decVal_one, digit_byte h]; omega
    · rename_i h
      rw [decVal_last, ih (u / 10) (by omega), digit_byte (by omega)]
      omega
theorem dec_ne (u : Nat) : decDigits u ≠ [] := by
  intro h
  have := decDigits_length u
  rw [h] at this
  have := nDigits_pos u
  simp at *
  omega
theorem dec_head (u : Nat) (h : 0 < u) : (decDigits u).head? ≠ some 48 := by
  induction u using Nat.strongRecOn with
  | _ u ih =>
    rw [decDigits]
    split
    · rename_i h10
      intro e
      have e : UInt8.ofNat (48 + u) = 48 := by simpa using e
      have := digit_byte h10
      rw [e] at this
      have : (48 : Nat) = 48 + u := this
      omega
    · rename_i h10
      have := ih (u / 10) (by omega) (by omega)
      intro e
      apply this
      cases hc : decDigits (u / 10) with
      | nil => exact absurd hc (dec_ne _)
      | cons c r => rw [hc] at e; simpa using e
theorem canon_dec (u : Nat) : canon (decDigits u) = true := by
  unfold canon
  simp only [Bool.and_eq_true, Bool.or_eq_true]
  refine ⟨⟨?_, ?_⟩, dec_all u⟩
  · cases hc : decDigits u with
    | nil => exact absurd hc (dec_ne _)
    | cons c r => rfl
  · rcases Nat.eq_zero_or_pos u with rfl | h
    · left; rw [decDigits]; rfl
    · right
      have := dec_head u h
      cases hc : (decDigits u).head? with
      | none => rfl
      | some c =>
        rw [hc] at this
        have hne : c ≠ 48 := fun e => this (by rw [e])
        simp [hne]
/-- A short row of digits, as the library reads it. -/
theorem decFrom_val : ∀ (l : List UInt8) (acc : Nat), l.all isDig = true → decFrom acc l = some (acc * 10 ^ l.length + decVal l)
  | [], acc, _ => by simp [decFrom, decVal]
  | b :: r, acc, h => by
    simp only [List.all_cons, Bool.and_eq_true] at h
    have h1 := of_decide_eq_true h.1
    have e : decVal (b :: r) = (b.toNat - 48) * 10 ^ r.length + decVal r := decVal_cons b r
    unfold decFrom digitVal
    rw [if_pos h1]
    show decFrom (acc * 10 + (b.toNat - 48)) r = _
    rw [decFrom_val r _ h.2, e, List.length_cons, Nat.pow_succ, Nat.add_mul, Nat.add_assoc, Nat.mul_assoc, Nat.mul_comm 10]
theorem parse_short {l : List UInt8} (h : l.all isDig = true) (hn : l ≠ []) (h9 : l.length ≤ 9) : parseUintB 64 l = .ok (decVal l) := by
  rw [parseUintB_64]
  unfold parseMag
  rw [if_neg hn, parseUint10_short l 0 0 (by decide) (by omega), decFrom_val l 0 h, Nat.zero_mul, Nat.zero_add]
  rfl
end Go.Num

namespace Go.Num
open Go.Lib

/-! ### Cutting at a slash -/
/-- The place of the first slash, or the length. -/
def slashAt (l : List UInt8) : Nat := (l.takeWhile (fun b => !(b == 47))).length
theorem slash_le (l : List UInt8) : slashAt l ≤ l.length := (List.takeWhile_sublist _).length_le
theorem slash_take (l : List UInt8) : l.take (slashAt l) = l.takeWhile (fun b => !(b == 47)) := by
  unfold slashAt
  induction l with
  | nil => rfl
  | cons b r ih =>
    rw [List.takeWhile_cons]
    split
    · simp only [List.length_cons, List.take_succ_cons, ih]
    · simp
theorem slash_before (l : List UInt8) {i : Nat} (h : i < slashAt l) : l[i]? ≠ some 47 := by
  have h1 : (l.take (slashAt l))[i]? = l[i]? := by rw [List.getElem?_take, if_pos h]
  rw [slash_take] at h1
  intro e
  rw [e] at h1
  have hm := List.mem_of_getElem? h1
  have := (List.all_eq_true.1 (List.all_takeWhile (p := fun b : UInt8 => !(b == 47)) (l := l))) _ hm
  simp at this
theorem slash_is (l : List UInt8) (h : slashAt l < l.length) : l[slashAt l]? = some 47 := by
  unfold slashAt at *
  induction l with
  | nil => simp at h
  | cons b r ih =>
    rw [List.takeWhile_cons] at h ⊢
    split
    · rename_i hb
      rw [if_pos hb] at h
      simp only [List.length_cons, List.getElem?_cons_succ] at h ⊢
      exact ih (by omega)
    · rename_i hb
      have hb' : b = 47 := by simpa using hb
      rw [hb']; rfl
theorem slash_unique {l : List UInt8} {k : Nat} (h1 : ∀ i, i < k → l[i]? ≠ some 47) (h2 : k < l.length → l[k]? = some 47) (h3 : k ≤ l.length) : slashAt l = k := by
  rcases Nat.lt_trichotomy (slashAt l) k with h | h | h
  · exact absurd (slash_is l (by omega)) (h1 _ h)
  · exact h
  · have := slash_le l
    exact absurd (h2 (by omega)) (slash_before l h)
theorem isPrefix_one (l : List UInt8) : List.isPrefixOf [47] l = (l.head? == some 47) := by
  cases l with
  | nil => rfl
  | cons b r =>
    simp only [List.isPrefixOf, List.head?_cons, Bool.and_true]
    rw [Bool.eq_iff_iff]
    simp
    exact eq_comm
theorem index_slash (l : List UInt8) : index l [47] = if slashAt l < l.length then (slashAt l : Int) else -1 := by
  rcases index_spec l [47] with ⟨h1, h2⟩ | ⟨i, h1, h2, h3, h4⟩
  · rw [h1, if_neg]
    intro h
    have := h2 (slashAt l) (by omega)
    unfold occAt at this
    rw [isPrefix_one, List.head?_drop, slash_is l h] at this
    simp at this
  · have hi : l[i]? = some 47 := by
      unfold occAt at h3
      rw [isPrefix_one, List.head?_drop] at h3
      simpa using h3
    have hlt : i < l.length := by
      apply Classical.byContradiction
      intro hn
      rw [List.getElem?_eq_none (by omega)] at hi
      cases hi
    have hs : slashAt l = i := slash_unique (fun j hj e => by
      have := h4 j hj
      unfold occAt at this
      rw [isPrefix_one, List.head?_drop, e] at this
      simp at this) (fun _ => hi) h2
    rw [h1, hs, if_pos hlt]
theorem cut_slash (l : List UInt8) : cut l [47] = if slashAt l < l.length then (l.take (slashAt l), l.drop (slashAt l + 1), true) else (l, [], false) := by
  unfold cut
  rw [index_slash]
  by_cases h : slashAt l < l.length
  · rw [if_pos h, if_pos h, if_pos (by omega)]; simp
  · rw [if_neg h, if_neg h, if_neg (by omega)]

/-! ### Integers -/
def isNeg (l : List UInt8) : Bool := hasPrefix l [45]
def ownOf (l : List UInt8) : List UInt8 := trimPrefix l [45]
/-- The integer of a text. -/
def formZ (l : List UInt8) : Option Int :=
  if canon (ownOf l) && !(isNeg l && ownOf l == [48]) then some (sgn (isNeg l) (decVal (ownOf l))) else none
theorem isNeg_cons (b : UInt8) (r : List UInt8) : isNeg (b :: r) = (b == 45) := by
  unfold isNeg hasPrefix
  simp only [List.isPrefixOf, Bool.and_true]
  rw [Bool.eq_iff_iff]; simp; exact eq_comm
theorem ownOf_neg (r : List UInt8) : ownOf (45 :: r) = r := by
  unfold ownOf trimPrefix
  rw [if_pos (by rfl)]; rfl
theorem ownOf_pos {l : List UInt8} (h : isNeg l = false) : ownOf l = l := by
  unfold ownOf trimPrefix
  rw [if_neg]; unfold isNeg at h; rw [h]; simp
theorem neg_form {l : List UInt8} (h : isNeg l = true) : ∃ r, l = 45 :: r := by
  cases l with
  | nil => simp [isNeg, hasPrefix] at h
  | cons b r => rw [isNeg_cons] at h; exact ⟨r, by rw [show b = 45 by simpa using h]⟩
theorem formZ_text {l : List UInt8} {z : Int} (h : formZ l = some z) : itoa z = l := by
  unfold formZ at h
  split at h
  · rename_i hc
    cases h
    rw [Bool.and_eq_true] at hc
    cases hn : isNeg l with
    | false =>
      rw [hn, ownOf_pos hn] at hc
      rw [ownOf_pos hn]
      show itoa (decVal l : Int) = l
      unfold itoa
      rw [if_neg (by omega), Int.toNat_natCast]
      exact dec_canon hc.1
    | true =>
      obtain ⟨r, rfl⟩ := neg_form hn
      rw [ownOf_neg] at hc ⊢
      rw [hn] at hc
      have hne : r ≠ [48] := by simpa using hc.2
      have hp : 0 < decVal r := by
        cases r with
        | nil => exact absurd rfl (canon_ne hc.1)
        | cons b t =>
          have := hc.1
          unfold canon at this
          simp only [Bool.and_eq_true, Bool.or_eq_true] at this
          rcases this.1.2 with h | h
          · exact absurd (by simpa using h) hne
          · refine decVal_pos (canon_dig hc.1) ?_
            rintro rfl; simp at h
      show itoa (-(decVal r : Int)) = _
      unfold itoa
      rw [if_pos (by omega), Int.natAbs_neg, Int.natAbs_natCast, dec_canon hc.1]
  · cases h
theorem dec_no45 (u : Nat) : isNeg (decDigits u) = false := by
  have := dec_all u
  cases h : decDigits u with
  | nil => rfl
  | cons b r =>
    rw [h] at this
    simp only [List.all_cons, Bool.and_eq_true] at this
    have h1 := of_decide_eq_true this.1
    rw [isNeg_cons, beq_eq_false_iff_ne]
    rintro rfl
    have : (45 : UInt8).toNat = 45 := rfl
    omega
theorem text_formZ (z : Int) : formZ (itoa z) = some z := by
  unfold itoa
  split
  · rename_i hz
    have hn : isNeg (45 :: decDigits z.natAbs) = true := by rw [isNeg_cons]; rfl
    have hc : (canon (decDigits z.natAbs) && !(decDigits z.natAbs == [48])) = true := by
      rw [canon_dec]
      have : decDigits z.natAbs ≠ [48] := by
        intro e
        have := val_dec z.natAbs
        rw [e, decVal_one] at this
        simp at this
        omega
      simpa using this
    unfold formZ
    rw [hn, ownOf_neg, Bool.true_and, if_pos hc, val_dec]
    unfold sgn
    rw [if_pos rfl]
    congr 1; omega
  · rename_i hz
    unfold formZ
    rw [dec_no45, ownOf_pos (dec_no45 _), canon_dec]
    simp only [Bool.false_and, Bool.not_false, Bool.and_self, if_true, val_dec, Option.some.injEq]
    unfold sgn
    rw [if_neg (by simp)]; omega
theorem itoa_no47 (z : Int) : ∀ x ∈ itoa z, x ≠ 47 := by
  have hd : ∀ u, ∀ x ∈ decDigits u, x ≠ 47 := fun u x hx => by
    have := List.all_eq_true.1 (dec_all u) x hx
    have := of_decide_eq_true this
    rintro rfl
    have : (47 : UInt8).toNat = 47 := rfl
    omega
  unfold itoa
  split
  · intro x hx
    rcases List.mem_cons.1 hx with rfl | hx
    · decide
    · exact hd _ x hx
  · exact hd _

/-! ### Fractions -/
/-- The fraction of a text. -/
def formQ (l : List UInt8) : Option Rat :=
  if slashAt l < l.length then
    match formZ (l.take (slashAt l)) with
    | none => none
    | some z => if canon (l.drop (slashAt l + 1)) && decide (2 ≤ decVal (l.drop (slashAt l + 1))) && decide (Nat.gcd z.natAbs (decVal (l.drop (slashAt l + 1))) = 1)
      then some ((z : Rat) / (decVal (l.drop (slashAt l + 1)) : Rat)) else none
  else match formZ l with
    | none => none
    | some z => some ((z : Int) : Rat)
/-- The canonical form of a fraction. -/
def textL (q : Rat) : List UInt8 := if q.den = 1 then itoa q.num else itoa q.num ++ 47 :: decDigits q.den
theorem quot_partsT {z : Int} {d : Nat} (hd : d ≠ 0) (hg : Nat.gcd z.natAbs d = 1) : ((z : Rat) / (d : Rat)).num = z ∧ ((z : Rat) / (d : Rat)).den = d := by
  have e : (z : Rat) / (d : Rat) = frac (decide (z < 0)) z.natAbs d := by
    unfold frac
    have : sgn (decide (z < 0)) z.natAbs = z := by unfold sgn; simp; omega
    rw [this, Rat.divInt_eq_div]; rfl
  have h := frac_parts (neg := decide (z < 0)) (n := z.natAbs) hd
  rw [← e, Nat.gcd_comm, hg, Nat.div_one, Nat.div_one] at h
  refine ⟨?_, h.2.1⟩
  have h3 := h.2.2
  have h1 := h.1
  by_cases hz : z < 0
  · have := h3.2 ⟨decide_eq_true hz, by omega⟩
    omega
  · have : ¬ ((z : Rat) / (d : Rat)).num < 0 := fun hh => hz (of_decide_eq_true (h3.1 hh).1)
    omega
theorem slash_cut {a b : List UInt8} (h : ∀ x ∈ a, x ≠ 47) : slashAt (a ++ 47 :: b) = a.length := by
  refine slash_unique (fun i hi e => ?_) (fun _ => by simp) (by simp)
  rw [List.getElem?_append_left hi] at e
  exact h _ (List.mem_of_getElem? e) rfl
theorem slash_none {a : List UInt8} (h : ∀ x ∈ a, x ≠ 47) : slashAt a = a.length :=
  slash_unique (fun _ _ e => h _ (List.mem_of_getElem? e) rfl) (fun h => absurd h (by omega)) (Nat.le_refl _)
theorem split_slash {l : List UInt8} (h : slashAt l < l.length) : l.take (slashAt l) ++ 47 :: l.drop (slashAt l + 1) = l := by
  have h1 := slash_is l h
  have h2 : l.drop (slashAt l) = 47 :: l.drop (slashAt l + 1) := by
    rw [List.drop_eq_getElem_cons h]
    congr 1
    rw [List.getElem?_eq_getElem h] at h1
    exact Option.some.inj h1
  rw [← h2, List.take_append_drop]
theorem formQ_text {l : List UInt8} {q : Rat} (h : formQ l = some q) : textL q = l := by
  unfold formQ at h
  split at h
  · rename_i hs
    split at h
    · cases h
    · rename_i z hz
      split at h
      · rename_i hc
        cases h
        simp only [Bool.and_eq_true] at hc
        have h2 := of_decide_eq_true hc.1.2
        have hp := quot_partsT (z := z) (by omega) (of_decide_eq_true hc.2)
        unfold textL
        rw [hp.1, hp.2, if_neg (by omega), formZ_text hz, dec_canon hc.1.1]
        exact split_slash hs
      · cases h
  · split at h
    · cases h
    rename_i z hz
    cases h
    unfold textL
    rw [if_pos (Rat.den_intCast z), Rat.num_intCast]
    exact formZ_text hz
theorem text_formQ (q : Rat) : formQ (textL q) = some q := by
  unfold textL
  split
  · rename_i h1
    have hs : slashAt (itoa q.num) = (itoa q.num).length := slash_none (itoa_no47 _)
    unfold formQ
    rw [hs, if_neg (by omega), text_formZ]
    show some ((q.num : Rat)) = some q
    congr 1
    apply Rat.ext
    · exact Rat.num_intCast _
    · rw [h1]; exact Rat.den_intCast _
  · rename_i h1
    have hs : slashAt (itoa q.num ++ 47 :: decDigits q.den) = (itoa q.num).length := slash_cut (itoa_no47 _)
    have hz := q.den_nz
    unfold formQ
    rw [hs, if_pos (by simp), List.take_left, text_formZ]
    have e : (itoa q.num ++ 47 :: decDigits q.den).drop ((itoa q.num).length + 1) = decDigits q.den := by
      rw [List.drop_append]
      simp
    rw [e, canon_dec, val_dec]
    have hc : (true && decide (2 ≤ q.den) && decide (Nat.gcd q.num.natAbs q.den = 1)) = true := by
      have : Nat.gcd q.num.natAbs q.den = 1 := q.reduced
      simp [this]; omega
    rw [show (match some q.num with | none => none | some z => if (true && decide (2 ≤ q.den) && decide (Nat.gcd z.natAbs q.den = 1)) = true then some ((z : Rat) / (q.den : Rat)) else none) = if (true && decide (2 ≤ q.den) && decide (Nat.gcd q.num.natAbs q.den = 1)) = true then some ((q.num : Rat) / (q.den : Rat)) else none from rfl, if_pos hc]
    congr 1
    have hp := quot_partsT (z := q.num) hz q.reduced
    exact Rat.ext hp.1 hp.2
end Go.Num

namespace Go.Num
open Go.Lib

theorem B_pow (k : Nat) : B ^ k = 10 ^ (9 * k) := by
  rw [Nat.pow_mul]; rfl
/-- The limb that a chunk of nine digits is. -/
theorem chunk_limb {l : List UInt8} (h : l.all isDig = true) {i m : Nat} (hm : m + 9 * i = l.length) : decVal ((l.take m).drop (m - 9)) = limb (decVal l) i := by
  have hlen : (l.take m).length = m := by rw [List.length_take]; omega
  rw [decVal_drop (all_take h m), hlen, decVal_take h m, show l.length - m = 9 * i by omega, ← B_pow]
  unfold limb
  rcases Nat.lt_or_ge m 9 with h9 | h9
  · have h1 : decVal l / B ^ i < 10 ^ m := by
      have := decVal_lt (all_take h m)
      rw [decVal_take h m, hlen, show l.length - m = 9 * i by omega, ← B_pow] at this
      exact this
    have h2 : 10 ^ m ≤ 10 ^ 9 := Nat.pow_le_pow_right (by decide) (by omega)
    have h3 : (10 : Nat) ^ 9 = B := by decide
    rw [show m - (m - 9) = m by omega, Nat.mod_eq_of_lt h1, Nat.mod_eq_of_lt (by omega)]
  · rw [show m - (m - 9) = 9 by omega]; rfl
theorem val_limbs {l : List UInt8} (h : l.all isDig = true) {k : Nat} (hk : l.length ≤ 9 * k) : decVal l < B ^ k := by
  rw [B_pow]
  exact Nat.lt_of_lt_of_le (decVal_lt h) (Nat.pow_le_pow_right (by decide) hk)

/-- The j-th digit from the right. -/
theorem digit_at {l : List UInt8} (h : l.all isDig = true) {j : Nat} (hj : j < l.length) (b : UInt8) (hb : l[l.length - 1 - j]? = some b) : b.toNat - 48 = decVal l / 10 ^ j % 10 := by
  have h1 := decVal_take h (l.length - j)
  rw [show l.length - (l.length - j) = j by omega] at h1
  rw [← h1]
  have e : l.take (l.length - j) = l.take (l.length - 1 - j) ++ [b] := by
    rw [show l.length - j = (l.length - 1 - j) + 1 by omega, List.take_add_one, hb]; rfl
  rw [e, decVal_last]
  have hd : isDig b = true := List.all_eq_true.1 h b (List.mem_of_getElem? hb)
  have := isDig_lt hd
  omega
/-- The limb under way after so many digits. -/
def part (V j : Nat) : Nat := V % 10 ^ j / B ^ (j / 9)
theorem mod_succ10 (V j : Nat) : V % 10 ^ (j + 1) = V % 10 ^ j + 10 ^ j * (V / 10 ^ j % 10) := by
  rw [Nat.pow_succ, Nat.mod_mul]
theorem part_step (V j : Nat) : part V j + 10 ^ (j % 9) * (V / 10 ^ j % 10) = V % 10 ^ (j + 1) / B ^ (j / 9) := by
  unfold part
  rw [mod_succ10, B_pow]
  have e : 10 ^ j = 10 ^ (9 * (j / 9)) * 10 ^ (j % 9) := by rw [← Nat.pow_add, Nat.div_add_mod]
  rw [show V % 10 ^ j + 10 ^ j * (V / 10 ^ j % 10) = V % 10 ^ j + 10 ^ (9 * (j / 9)) * (10 ^ (j % 9) * (V / 10 ^ j % 10)) by rw [← Nat.mul_assoc, ← e]]
  rw [Nat.add_mul_div_left _ _ (Nat.pow_pos (by decide))]
theorem part_next {V j : Nat} (h : j % 9 ≠ 8) : part V (j + 1) = part V j + 10 ^ (j % 9) * (V / 10 ^ j % 10) := by
  rw [part_step]
  unfold part
  rw [show (j + 1) / 9 = j / 9 by omega]
theorem part_full {V j : Nat} (h : j % 9 = 8) : limb V (j / 9) = part V j + 10 ^ (j % 9) * (V / 10 ^ j % 10) ∧ part V (j + 1) = 0 := by
  rw [part_step]
  have e : j + 1 = 9 * (j / 9) + 9 := by omega
  have e2 : 10 ^ (j + 1) = B ^ (j / 9) * B := by rw [e, Nat.pow_add, ← B_pow]; rfl
  constructor
  · unfold limb
    rw [e2, Nat.mod_mul, Nat.add_mul_div_left _ _ (pow_pos' _), Nat.div_eq_of_lt (Nat.mod_lt _ (pow_pos' _)), Nat.zero_add]
  · unfold part
    rw [show (j + 1) / 9 = j / 9 + 1 by omega, Nat.pow_succ B, ← e2]
    exact Nat.div_eq_of_lt (Nat.mod_lt _ (Nat.pow_pos (by decide)))
theorem part_lt (V j : Nat) : part V j < 10 ^ (j % 9) := by
  unfold part
  rw [B_pow, Nat.div_lt_iff_lt_mul (Nat.pow_pos (by decide)), ← Nat.pow_add, Nat.add_comm, Nat.div_add_mod]
  exact Nat.mod_lt _ (Nat.pow_pos (by decide))
theorem part_end {V n : Nat} (h : V < 10 ^ n) : part V n = V / B ^ (n / 9) := by
  unfold part
  rw [Nat.mod_eq_of_lt h]
theorem end_limb {V n : Nat} (h : V < 10 ^ n) : limb V (n / 9) = part V n ∧ V < B ^ (n / 9 + 1) := by
  have h2 : V < B ^ (n / 9 + 1) := by
    rw [B_pow]
    exact Nat.lt_of_lt_of_le h (Nat.pow_le_pow_right (by decide) (by omega))
  refine ⟨?_, h2⟩
  rw [part_end h]
  unfold limb
  apply Nat.mod_eq_of_lt
  rw [Nat.pow_succ] at h2
  exact Nat.div_lt_of_lt_mul h2
theorem end_zero {V n : Nat} (h : V < 10 ^ n) (h0 : part V n = 0) : V < B ^ (n / 9) := by
  rw [part_end h] at h0
  rcases Nat.lt_or_ge V (B ^ (n / 9)) with h | h
  · exact h
  · have := Nat.div_pos h (pow_pos' _); omega
/-- The digits at a row's end. -/
theorem suffix_dig (l : List UInt8) : ∃ k, k ≤ l.length ∧ (l.drop k).all isDig = true ∧ (0 < k → ∃ b, l[k - 1]? = some b ∧ isDig b = false) := by
  induction l with
  | nil => exact ⟨0, Nat.le_refl _, rfl, fun h => absurd h (by omega)⟩
  | cons b r ih =>
    obtain ⟨k, hk, h1, h2⟩ := ih
    rcases Nat.eq_zero_or_pos k with rfl | h0
    · cases hb : isDig b with
      | true => exact ⟨0, by simp, by rw [List.drop_zero, List.all_cons, hb, Bool.true_and]; simpa using h1, fun h => absurd h (by omega)⟩
      | false => exact ⟨1, by simp, by simpa using h1, fun _ => ⟨b, rfl, hb⟩⟩
    · refine ⟨k + 1, by simp; omega, by simpa using h1, fun _ => ?_⟩
      obtain ⟨c, hc, hd⟩ := h2 h0
      refine ⟨c, ?_, hd⟩
      obtain ⟨m, rfl⟩ : ∃ m, k = m + 1 := ⟨k - 1, by omega⟩
      simpa using hc
end Go.Num
