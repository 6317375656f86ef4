/-
  A magnitude of the program: its limbs in memory; what 'cmp' answers. Decimal digits of a number, and those of its limbs. Fractions as a sign
  Conditions: see each statement.
-/
import Derived.Test.YtepakfjilnpodaaGreatDoorRows
import Derived.Test.YtepakfjilnpodaaGreatDoorProg
import Derived.WalkKit
import Derived.KernelRfl
import Derived.LoopIn
import Derived.Below
import Derived.BigFrameIn
import Derived.Handy
import Derived.RegionIn
import Derived.OwnWalkIn
import Derived.Sort.QuietIn
import Derived.Deep.QuietTactic
import Derived.Sort.AtCallIn
import Derived.Laws.OwnMore
namespace Go.Num

def B : Nat := 1000000000
theorem B_pos : 0 < B := by decide
theorem pow_pos' (i : Nat) : 0 < B ^ i := Nat.pow_pos B_pos
/-- The limb at a place. -/
def limb (n i : Nat) : Nat := n / B ^ i % B
theorem limb_lt (n i : Nat) : limb n i < B := Nat.mod_lt _ B_pos
theorem low_succ (n i : Nat) : n % B ^ (i + 1) = n % B ^ i + B ^ i * limb n i := Nat.mod_pow_succ
theorem low_lt (n i : Nat) : n % B ^ i < B ^ i := Nat.mod_lt _ (pow_pos' i)
theorem low_zero (n : Nat) : n % B ^ 0 = 0 := by rw [Nat.pow_zero, Nat.mod_one]
theorem limb_high {n i : Nat} (h : n < B ^ i) : limb n i = 0 := by
  unfold limb
  rw [Nat.div_eq_of_lt h]
  rfl
theorem low_high {n i : Nat} (h : n < B ^ i) : n % B ^ i = n := Nat.mod_eq_of_lt h
theorem pow_mono {i j : Nat} (h : i ≤ j) : B ^ i ≤ B ^ j := Nat.pow_le_pow_right B_pos h
/-- A limb by its neighbours. -/
theorem limb_of {n i a r : Nat} (h : n % B ^ (i + 1) = r + B ^ i * a) (hr : r < B ^ i) : limb n i = a ∧ n % B ^ i = r := by
  have h1 := low_succ n i
  have h2 := low_lt n i
  rw [h] at h1
  have e : a = limb n i := by
    have e1 : (r + B ^ i * a) / B ^ i = a := by rw [Nat.add_mul_div_left _ _ (pow_pos' i), Nat.div_eq_of_lt hr, Nat.zero_add]
    have e2 : (n % B ^ i + B ^ i * limb n i) / B ^ i = limb n i := by rw [Nat.add_mul_div_left _ _ (pow_pos' i), Nat.div_eq_of_lt h2, Nat.zero_add]
    rw [← e1, h1, e2]
  refine ⟨e.symm, ?_⟩
  rw [← e] at h1
  omega

/-! ### Sums -/
def carryA (x y i : Nat) : Nat := (x % B ^ i + y % B ^ i) / B ^ i
theorem carryA_zero (x y : Nat) : carryA x y 0 = 0 := by unfold carryA; rw [low_zero, low_zero]; simp
theorem carryA_le (x y i : Nat) : carryA x y i ≤ 1 := by
  unfold carryA
  have h1 := low_lt x i
  have h2 := low_lt y i
  have : (x % B ^ i + y % B ^ i) / B ^ i < 2 := Nat.div_lt_of_lt_mul (by omega)
  omega
theorem sum_low (x y i : Nat) : x % B ^ i + y % B ^ i = (x + y) % B ^ i + B ^ i * carryA x y i := by
  unfold carryA
  have h := Nat.div_add_mod (x % B ^ i + y % B ^ i) (B ^ i)
  rw [← Nat.add_mod] at h
  omega
theorem add_step (x y i : Nat) : limb (x + y) i = (limb x i + limb y i + carryA x y i) % B ∧ carryA x y (i + 1) = (limb x i + limb y i + carryA x y i) / B := by
  have s0 := sum_low x y i
  have s1 := sum_low x y (i + 1)
  have hx := low_succ x i
  have hy := low_succ y i
  have hz := low_succ (x + y) i
  rw [hx, hy, hz] at s1
  have hp : B ^ (i + 1) = B ^ i * B := Nat.pow_succ _ _
  rw [hp] at s1
  have key : B ^ i * (limb x i + limb y i + carryA x y i) = B ^ i * (limb (x + y) i + B * carryA x y (i + 1)) := by
    rw [Nat.mul_add, Nat.mul_add, Nat.mul_add]
    have : B ^ i * (B * carryA x y (i + 1)) = B ^ i * B * carryA x y (i + 1) := (Nat.mul_assoc _ _ _).symm
    omega
  have k := Nat.eq_of_mul_eq_mul_left (pow_pos' i) key
  have hl := limb_lt (x + y) i
  rw [k]
  exact ⟨by rw [Nat.add_mul_mod_self_left, Nat.mod_eq_of_lt hl], by rw [Nat.add_mul_div_left _ _ B_pos, Nat.div_eq_of_lt hl, Nat.zero_add]⟩

/-! ### Differences -/
def borrowS (x y i : Nat) : Nat := if x % B ^ i < y % B ^ i then 1 else 0
theorem borrowS_zero (x y : Nat) : borrowS x y 0 = 0 := by unfold borrowS; rw [low_zero, low_zero]; rfl
theorem borrowS_le (x y i : Nat) : borrowS x y i ≤ 1 := by unfold borrowS; split <;> omega
theorem diff_low {x y : Nat} (h : y ≤ x) (i : Nat) : (x - y) % B ^ i + y % B ^ i = x % B ^ i + B ^ i * borrowS x y i := by
  have s := sum_low (x - y) y i
  rw [Nat.sub_add_cancel h] at s
  have hx := low_lt x i
  have hd := low_lt (x - y) i
  have hc := carryA_le (x - y) y i
  have e : carryA (x - y) y i = borrowS x y i := by
    unfold borrowS
    by_cases hlt : x % B ^ i < y % B ^ i
    · rw [if_pos hlt]
      have : carryA (x - y) y i ≠ 0 := fun e => by
        rw [e, Nat.mul_zero] at s
        generalize (x - y) % B ^ i = D at s
        generalize x % B ^ i = X at s hlt
        generalize y % B ^ i = Y at s hlt
        omega
      omega
    · rw [if_neg hlt]
      by_cases e : carryA (x - y) y i = 1
      · rw [e, Nat.mul_one] at s
        generalize (x - y) % B ^ i = D at s hd
        generalize x % B ^ i = X at s hlt
        generalize y % B ^ i = Y at s hlt
        omega
      · omega
  rw [s, e]
theorem sub_step {x y : Nat} (h : y ≤ x) (i : Nat) : limb (x - y) i + (limb y i + borrowS x y i) = limb x i + B * borrowS x y (i + 1) := by
  have s0 := diff_low h i
  have s1 := diff_low h (i + 1)
  have hx := low_succ x i
  have hy := low_succ y i
  have hz := low_succ (x - y) i
  rw [hx, hy, hz] at s1
  have hp : B ^ (i + 1) = B ^ i * B := Nat.pow_succ _ _
  rw [hp] at s1
  have key : B ^ i * (limb (x - y) i + (limb y i + borrowS x y i)) = B ^ i * (limb x i + B * borrowS x y (i + 1)) := by
    rw [Nat.mul_add, Nat.mul_add, Nat.mul_add]
    have : B ^ i * (B * borrowS x y (i + 1)) = B ^ i * B * borrowS x y (i + 1) := (Nat.mul_assoc _ _ _).symm
    omega
  exact Nat.eq_of_mul_eq_mul_left (pow_pos' i) key
theorem sub_case {x y : Nat} (h : y ≤ x) (i : Nat) : (limb x i < limb y i + borrowS x y i → borrowS x y (i + 1) = 1 ∧ limb (x - y) i = limb x i + B - (limb y i + borrowS x y i)) ∧ (¬ limb x i < limb y i + borrowS x y i → borrowS x y (i + 1) = 0 ∧ limb (x - y) i = limb x i - (limb y i + borrowS x y i)) := by
  have s := sub_step h i
  have h1 := limb_lt (x - y) i
  have h2 := limb_lt y i
  have h3 := limb_lt x i
  have h4 := borrowS_le x y i
  have h5 := borrowS_le x y (i + 1)
  have hb : borrowS x y (i + 1) = 0 ∨ borrowS x y (i + 1) = 1 := by omega
  rcases hb with e | e
  · rw [e] at s ⊢
    exact ⟨fun q => by omega, fun q => ⟨rfl, by omega⟩⟩
  · rw [e] at s ⊢
    exact ⟨fun q => ⟨rfl, by omega⟩, fun q => by omega⟩

/-! ### How many limbs -/
/-- So many limbs and no more. -/
def LenIs (n k : Nat) : Prop := n < B ^ k ∧ (k = 0 ∨ B ^ (k - 1) ≤ n)
theorem LenIs.unique {n k l : Nat} (h : LenIs n k) (h' : LenIs n l) : k = l := by
  rcases Nat.lt_trichotomy k l with q | q | q
  · have h2 := h'.2
    have := pow_mono (i := k) (j := l - 1) (by omega)
    have := h.1
    omega
  · exact q
  · have h2 := h.2
    have := pow_mono (i := l) (j := k - 1) (by omega)
    have := h'.1
    omega
theorem LenIs.top {n k : Nat} (h : LenIs n (k + 1)) : limb n k ≠ 0 := by
  intro e
  have h1 := low_succ n k
  rw [e, Nat.mul_zero, low_high h.1] at h1
  have h2 := low_lt n k
  have h3 := h.2
  simp at h3
  omega
theorem lenIs_of {n k : Nat} (h : n < B ^ (k + 1)) (ht : limb n k ≠ 0) : LenIs n (k + 1) := by
  refine ⟨h, .inr ?_⟩
  have h1 := low_succ n k
  rw [low_high h] at h1
  have : B ^ k * 1 ≤ B ^ k * limb n k := Nat.mul_le_mul_left _ (by omega)
  rw [Nat.add_sub_cancel]
  rw [Nat.mul_one] at this
  rw [h1]
  exact Nat.le_trans this (Nat.le_add_left _ _)
theorem lt_of_zero {n k : Nat} (h : n < B ^ (k + 1)) (ht : limb n k = 0) : n < B ^ k := by
  have h1 := low_succ n k
  rw [low_high h, ht, Nat.mul_zero] at h1
  have := low_lt n k
  omega
theorem LenIs.zero {n : Nat} (h : LenIs n 0) : n = 0 := by have := h.1; rw [Nat.pow_zero] at this; omega
theorem lenIs_zero : LenIs 0 0 := ⟨by decide, .inl rfl⟩
theorem lenIs_ex : ∀ {m n : Nat}, n < B ^ m → ∃ k, k ≤ m ∧ LenIs n k
  | 0, n, h => ⟨0, Nat.le_refl _, h, .inl rfl⟩
  | m + 1, n, h => by
    by_cases e : limb n m = 0
    · obtain ⟨k, h1, h2⟩ := lenIs_ex (lt_of_zero h e)
      exact ⟨k, by omega, h2⟩
    · exact ⟨m + 1, Nat.le_refl _, lenIs_of h e⟩
/-- Two numbers with the same limbs. -/
theorem limb_ext {m n : Nat} : ∀ {k : Nat}, m < B ^ k → n < B ^ k → (∀ i, i < k → limb m i = limb n i) → m = n := by
  have key : ∀ k, (∀ i, i < k → limb m i = limb n i) → m % B ^ k = n % B ^ k := by
    intro k
    induction k with
    | zero => intro _; rw [low_zero, low_zero]
    | succ k ih =>
      intro h
      rw [low_succ, low_succ, ih fun i hi => h i (by omega), h k (by omega)]
  intro k h1 h2 h
  have := key k h
  rw [low_high h1, low_high h2] at this
  exact this
/-- Which of two numbers is less, by their highest limbs. -/
theorem cmp_top {m n k : Nat} (h1 : m < B ^ (k + 1)) (h2 : n < B ^ (k + 1)) (h : limb m k < limb n k) : m < n := by
  have a := low_succ m k
  have b := low_succ n k
  rw [low_high h1] at a
  rw [low_high h2] at b
  have c := low_lt m k
  have : B ^ k * (limb m k + 1) ≤ B ^ k * limb n k := Nat.mul_le_mul_left _ h
  rw [Nat.mul_add, Nat.mul_one] at this
  generalize m % B ^ k = M at a c
  generalize n % B ^ k = N at b
  omega

/-! ### Quotients by one limb -/
theorem div_step (x i : Nat) : x / B ^ i = B * (x / B ^ (i + 1)) + limb x i := by
  unfold limb
  rw [Nat.pow_succ, ← Nat.div_div_eq_div_mul]
  exact (Nat.div_add_mod _ _).symm
theorem short_step {b : Nat} (hb : 0 < b) (x i : Nat) : (x / B ^ (i + 1) % b * B + limb x i) / b = limb (x / b) i + (if b ≤ B then 0 else ((x / B ^ (i + 1) % b * B + limb x i) / b - limb (x / b) i)) ∧ (x / B ^ (i + 1) % b * B + limb x i) % b = x / B ^ i % b := by
  have e := div_step x i
  have h2 : (x / B ^ (i + 1) % b * B + limb x i) % b = x / B ^ i % b := by
    rw [e, Nat.add_mod, Nat.add_mod (B * _), Nat.mul_comm B, Nat.mod_mul_mod]
  refine ⟨?_, h2⟩
  have h3 : x / B ^ i / b = x / b / B ^ i := by rw [Nat.div_div_eq_div_mul, Nat.div_div_eq_div_mul, Nat.mul_comm]
  have h4 : x / B ^ (i + 1) / b = x / b / B ^ (i + 1) := by rw [Nat.div_div_eq_div_mul, Nat.div_div_eq_div_mul, Nat.mul_comm]
  have d1 := Nat.div_add_mod (x / B ^ (i + 1)) b
  have q : x / B ^ i / b = B * (x / B ^ (i + 1) / b) + (x / B ^ (i + 1) % b * B + limb x i) / b := by
    rw [e]
    have : B * (x / B ^ (i + 1)) + limb x i = b * (B * (x / B ^ (i + 1) / b)) + (x / B ^ (i + 1) % b * B + limb x i) := by
      have h : B * (x / B ^ (i + 1)) = b * (B * (x / B ^ (i + 1) / b)) + x / B ^ (i + 1) % b * B := by
        conv => lhs; rw [← d1]
        rw [Nat.mul_add, ← Nat.mul_assoc, ← Nat.mul_assoc, Nat.mul_comm B b, Nat.mul_comm B (_ % b)]
      rw [h]; omega
    rw [this, Nat.mul_add_div hb]
  have s := div_step (x / b) i
  rw [h3, h4, s] at q
  have q2 : limb (x / b) i = (x / B ^ (i + 1) % b * B + limb x i) / b := by omega
  rw [q2]
  split <;> omega
theorem short_limb {b : Nat} (hb : 0 < b) (hB : b ≤ B) (x i : Nat) : (x / B ^ (i + 1) % b * B + limb x i) / b = limb (x / b) i := by
  have := (short_step hb x i).1
  rw [if_pos hB, Nat.add_zero] at this
  exact this

/-! ### A row of a product -/
def rowT (S c b i j : Nat) : Nat := S + c * (b % B ^ j) * B ^ i
def carryM (S c b i j : Nat) : Nat := rowT S c b i j / B ^ (i + j) - S / B ^ (i + j)
theorem rowT_zero (S c b i : Nat) : rowT S c b i 0 = S := by unfold rowT; rw [low_zero]; simp
theorem carryM_zero (S c b i : Nat) : carryM S c b i 0 = 0 := by unfold carryM; rw [rowT_zero]; simp
theorem rowT_succ (S c b i j : Nat) : rowT S c b i (j + 1) = rowT S c b i j + c * limb b j * B ^ (i + j) := by
  unfold rowT
  have e : c * (b % B ^ (j + 1)) * B ^ i = c * (b % B ^ j) * B ^ i + c * limb b j * B ^ (i + j) := by
    rw [low_succ, Nat.mul_add, Nat.add_mul, Nat.pow_add]
    congr 1
    ac_rfl
  rw [e, Nat.add_assoc]
theorem row_over (S c b i j : Nat) : rowT S c b i j / B ^ (i + j) = S / B ^ (i + j) + carryM S c b i j := by
  unfold carryM
  have : S / B ^ (i + j) ≤ rowT S c b i j / B ^ (i + j) := Nat.div_le_div_right (by unfold rowT; omega)
  omega
theorem carryM_le (S c b i j : Nat) : carryM S c b i j ≤ c := by
  have h := row_over S c b i j
  have h2 : rowT S c b i j / B ^ (i + j) ≤ S / B ^ (i + j) + c := by
    have h3 : rowT S c b i j ≤ S + c * B ^ (i + j) := by
      unfold rowT
      have : c * (b % B ^ j) * B ^ i ≤ c * B ^ j * B ^ i := Nat.mul_le_mul_right _ (Nat.mul_le_mul_left _ (Nat.le_of_lt (low_lt b j)))
      rw [Nat.pow_add, Nat.mul_comm (B ^ i), ← Nat.mul_assoc]
      omega
    refine Nat.le_trans (Nat.div_le_div_right h3) ?_
    rw [Nat.add_mul_div_right _ _ (pow_pos' _)]
    exact Nat.le_refl _
  omega
theorem mul_step (S c b i j : Nat) : limb (rowT S c b i (j + 1)) (i + j) = (carryM S c b i j + limb S (i + j) + c * limb b j) % B ∧ carryM S c b i (j + 1) = (carryM S c b i j + limb S (i + j) + c * limb b j) / B ∧ ∀ p, p < i + j → limb (rowT S c b i (j + 1)) p = limb (rowT S c b i j) p := by
  have e := rowT_succ S c b i j
  have o := row_over S c b i j
  have q : rowT S c b i (j + 1) / B ^ (i + j) = B * (S / B ^ (i + j + 1)) + (carryM S c b i j + limb S (i + j) + c * limb b j) := by
    rw [e, Nat.add_mul_div_right _ _ (pow_pos' _), o, div_step S (i + j)]
    omega
  refine ⟨?_, ?_, fun p hp => ?_⟩
  · unfold limb at *
    rw [q, Nat.mul_add_mod]
  · have o2 := row_over S c b i (j + 1)
    have d : rowT S c b i (j + 1) / B ^ (i + (j + 1)) = S / B ^ (i + j + 1) + (carryM S c b i j + limb S (i + j) + c * limb b j) / B := by
      rw [show i + (j + 1) = (i + j) + 1 by omega, Nat.pow_succ, ← Nat.div_div_eq_div_mul, q, Nat.mul_add_div B_pos]
      rw [Nat.pow_succ]
    rw [show i + (j + 1) = i + j + 1 by omega] at o2 d
    rw [d] at o2
    omega
  · rw [e]
    unfold limb
    obtain ⟨d, hd⟩ : ∃ d, i + j = p + 1 + d := ⟨i + j - p - 1, by omega⟩
    have : c * limb b j * B ^ (i + j) = B ^ p * (B * (c * limb b j * B ^ d)) := by
      rw [hd, Nat.pow_add, Nat.pow_succ]
      rw [Nat.mul_comm (c * limb b j), Nat.mul_assoc, Nat.mul_assoc, Nat.mul_comm (B ^ d)]
    unfold limb at this
    rw [this, Nat.add_mul_div_left _ _ (pow_pos' p), Nat.add_mul_mod_self_left]
/-- The row's end. -/
theorem row_end {x y i l : Nat} (hy : y < B ^ l) : rowT (x % B ^ i * y) (limb x i) y i l = x % B ^ (i + 1) * y ∧ carryM (x % B ^ i * y) (limb x i) y i l = limb (x % B ^ (i + 1) * y) (i + l) := by
  have e : rowT (x % B ^ i * y) (limb x i) y i l = x % B ^ (i + 1) * y := by
    unfold rowT
    rw [low_high hy, low_succ, Nat.add_mul]
    congr 1
    rw [Nat.mul_comm _ (B ^ i), ← Nat.mul_assoc]
  refine ⟨e, ?_⟩
  unfold carryM limb
  unfold limb at e
  rw [e]
  have h0 : x % B ^ i * y < B ^ (i + l) := by
    rw [Nat.pow_add]
    exact Nat.mul_lt_mul_of_lt_of_le (low_lt x i) (Nat.le_of_lt hy) (pow_pos' l)
  rw [Nat.div_eq_of_lt h0, Nat.sub_zero]
  refine (Nat.mod_eq_of_lt (Nat.div_lt_of_lt_mul ?_)).symm
  have h1 : x % B ^ (i + 1) * y < B ^ (i + 1) * B ^ l := Nat.mul_lt_mul_of_lt_of_le (low_lt x _) (Nat.le_of_lt hy) (pow_pos' l)
  have e2 : B ^ (i + 1) * B ^ l = B ^ (i + l) * B := by
    rw [← Nat.pow_add, ← Nat.pow_succ]
    congr 1
    omega
  rw [← e2]
  exact h1
theorem prod_len {x y k l : Nat} (hx : x < B ^ k) (hy : y < B ^ l) : x * y < B ^ (k + l) := by
  rw [Nat.pow_add]
  exact Nat.mul_lt_mul_of_lt_of_le hx (Nat.le_of_lt hy) (pow_pos' l)

/-! ### Long quotients -/
/-- The guess by the highest limbs is not too small. -/
theorem guess_ge {R c i l top : Nat} (hl : 0 < l) (ht : top * B ^ (l - 1) ≤ c) (ht0 : 0 < top) : R / (c * B ^ i) ≤ R / B ^ (i + l - 1) / top := by
  rcases Nat.eq_zero_or_pos c with hc | hc
  · have := Nat.mul_pos ht0 (pow_pos' (l - 1))
    omega
  rw [Nat.le_div_iff_mul_le ht0, Nat.le_div_iff_mul_le (pow_pos' _)]
  have h1 : R / (c * B ^ i) * (c * B ^ i) ≤ R := Nat.div_mul_le_self _ _
  refine Nat.le_trans ?_ h1
  rw [Nat.mul_assoc]
  refine Nat.mul_le_mul_left _ ?_
  rw [show i + l - 1 = (l - 1) + i by omega, Nat.pow_add, ← Nat.mul_assoc]
  exact Nat.mul_le_mul_right _ ht
/-- A guess that fits, while one more does not. -/
theorem guess_is {R D g : Nat} (_hD : 0 < D) (h1 : g * D ≤ R) (h2 : R / D ≤ g) : g = R / D := by
  have : g ≤ R / D := (Nat.le_div_iff_mul_le _hD).2 h1
  omega
theorem guess_not {R D g : Nat} (_hD : 0 < D) (h : R < g * D) : R / D < g := Nat.div_lt_of_lt_mul (by rw [Nat.mul_comm]; exact h)
/-- The quotient is built limb by limb from the top. -/
theorem quo_step {A c i : Nat} (hc : 0 < c) : limb (A / c) i = A % (c * B ^ (i + 1)) / (c * B ^ i) ∧ A % (c * B ^ (i + 1)) - A % (c * B ^ (i + 1)) / (c * B ^ i) * (c * B ^ i) = A % (c * B ^ i) := by
  have e : c * B ^ (i + 1) = c * B ^ i * B := by rw [Nat.pow_succ, Nat.mul_assoc]
  have hp : 0 < c * B ^ i := Nat.mul_pos hc (pow_pos' i)
  refine ⟨?_, ?_⟩
  · unfold limb
    rw [e, Nat.mod_mul_right_div_self, Nat.div_div_eq_div_mul]
  · have h := Nat.div_add_mod (A % (c * B ^ (i + 1))) (c * B ^ i)
    rw [e, Nat.mod_mul_right_mod] at h
    rw [← e] at h
    rw [Nat.mul_comm (_ / _)]
    omega

/-- The decimal digit at a place, the lowest first. -/
def dig (n k : Nat) : Nat := n / 10 ^ k % 10
theorem dig_lt (n k : Nat) : dig n k < 10 := Nat.mod_lt _ (by decide)
theorem B_ten : B = 10 ^ 9 := rfl
theorem pow_B (i : Nat) : B ^ i = 10 ^ (9 * i) := by rw [B_ten, Nat.pow_mul]
theorem dig_limb {n i k : Nat} (hk : k < 9) : dig n (9 * i + k) = dig (limb n i) k := by
  unfold dig limb
  rw [Nat.pow_add, ← pow_B, ← Nat.div_div_eq_div_mul]
  generalize n / B ^ i = m
  have e : B = 10 ^ k * 10 * 10 ^ (8 - k) := by
    rw [B_ten, ← Nat.pow_succ, ← Nat.pow_add]
    congr 1
    omega
  rw [e, Nat.mul_assoc, Nat.mod_mul_right_div_self, Nat.mod_mul_right_mod]
/-- So many decimal digits (one for zero). -/
def LenD (n m : Nat) : Prop := 1 ≤ m ∧ n < 10 ^ m ∧ (m = 1 ∨ 10 ^ (m - 1) ≤ n)
theorem pow10_mono {i j : Nat} (h : i ≤ j) : 10 ^ i ≤ 10 ^ j := Nat.pow_le_pow_right (by decide) h
theorem LenD.unique {n a b : Nat} (h : LenD n a) (h' : LenD n b) : a = b := by
  obtain ⟨h1, h2, h3⟩ := h
  obtain ⟨k1, k2, k3⟩ := h'
  rcases Nat.lt_trichotomy a b with q | q | q
  · have := pow10_mono (i := a) (j := b - 1) (by omega)
    omega
  · exact q
  · have := pow10_mono (i := b) (j := a - 1) (by omega)
    omega
theorem lenD_ex : ∀ {m n : Nat}, n < 10 ^ (m + 1) → ∃ k, k ≤ m + 1 ∧ LenD n k
  | 0, n, h => ⟨1, Nat.le_refl _, Nat.le_refl _, h, .inl rfl⟩
  | m + 1, n, h => by
    by_cases e : n < 10 ^ (m + 1)
    · obtain ⟨k, h1, h2⟩ := lenD_ex e
      exact ⟨k, by omega, h2⟩
    · exact ⟨m + 2, Nat.le_refl _, by omega, h, .inr (by show 10 ^ (m + 1) ≤ n; omega)⟩
/-- The digits of a number of some limbs: those of the highest one, and nine for each of the others. -/
theorem lenD_limbs {n k m : Nat} (h : LenIs n (k + 1)) (hm : LenD (limb n k) m) : m ≤ 9 ∧ LenD n (9 * k + m) := by
  obtain ⟨m1, m2, m3⟩ := hm
  have hl := limb_lt n k
  have ht := h.top
  have m9 : m ≤ 9 := by
    apply Classical.byContradiction
    intro hno
    rcases m3 with m3 | m3
    · omega
    · have := pow10_mono (i := 9) (j := m - 1) (by omega)
      rw [← B_ten] at this
      omega
  have e := low_succ n k
  rw [low_high h.1] at e
  have hlow := low_lt n k
  have hb := pow_B k
  refine ⟨m9, by omega, ?_, .inr ?_⟩
  · have h1 : n < B ^ k * (limb n k + 1) := by
      rw [Nat.mul_add, Nat.mul_one]
      generalize n % B ^ k = r at e hlow
      omega
    have h2 : B ^ k * (limb n k + 1) ≤ B ^ k * 10 ^ m := Nat.mul_le_mul_left _ m2
    rw [Nat.pow_add, ← hb]
    omega
  · have h1 : B ^ k * limb n k ≤ n := by
      generalize n % B ^ k = r at e hlow
      omega
    rcases m3 with rfl | m3
    · rw [Nat.add_sub_cancel, ← hb]
      have : B ^ k * 1 ≤ B ^ k * limb n k := Nat.mul_le_mul_left _ (by omega)
      omega
    · have h2 : B ^ k * 10 ^ (m - 1) ≤ B ^ k * limb n k := Nat.mul_le_mul_left _ m3
      rw [show 9 * k + m - 1 = 9 * k + (m - 1) by omega, Nat.pow_add, ← hb]
      omega

def sgn (neg : Bool) (n : Nat) : Int := if neg = true then -(n : Int) else (n : Int)
theorem sgn_abs (neg : Bool) (n : Nat) : (sgn neg n).natAbs = n := by unfold sgn; split <;> omega
theorem sgn_neg (neg : Bool) (n : Nat) : sgn neg n < 0 ↔ neg = true ∧ 0 < n := by
  unfold sgn
  cases neg <;> simp <;> omega
/-- The fraction of a sign and two numbers. -/
def frac (neg : Bool) (n d : Nat) : Rat := Rat.divInt (sgn neg n) (d : Int)
theorem frac_eq {neg : Bool} {n d : Nat} (hd : d ≠ 0) : frac neg n d = Rat.normalize (sgn neg n) d hd := by
  unfold frac
  show Rat.divInt (sgn neg n) ((d : Nat) : Int) = _
  rw [Rat.divInt_ofNat, Rat.mkRat_def, dif_neg hd]
/-- In lowest terms. -/
theorem frac_parts {neg : Bool} {n d : Nat} (hd : d ≠ 0) : (frac neg n d).num.natAbs = n / Nat.gcd d n ∧ (frac neg n d).den = d / Nat.gcd d n ∧ ((frac neg n d).num < 0 ↔ neg = true ∧ 0 < n) := by
  have hg : 0 < Nat.gcd n d := Nat.gcd_pos_of_pos_right _ (Nat.pos_of_ne_zero hd)
  have e : (sgn neg n).natAbs.gcd d = Nat.gcd n d := by rw [sgn_abs]
  rw [frac_eq hd, Rat.normalize_eq]
  refine ⟨?_, ?_, ?_⟩
  · show (sgn neg n / ((sgn neg n).natAbs.gcd d : Int)).natAbs = _
    rw [e, Nat.gcd_comm d n]
    have hdv : ((Nat.gcd n d : Nat) : Int) ∣ sgn neg n := by
      have := Int.natCast_dvd_natCast.2 (Nat.gcd_dvd_left n d)
      unfold sgn
      split
      · exact Int.dvd_neg.2 this
      · exact this
    rw [Int.natAbs_ediv_of_dvd hdv, sgn_abs]
    rfl
  · show d / (sgn neg n).natAbs.gcd d = _
    rw [e, Nat.gcd_comm d n]
  · show sgn neg n / ((sgn neg n).natAbs.gcd d : Int) < 0 ↔ _
    rw [e, ← sgn_neg]
    have hg' : (0 : Int) < ((Nat.gcd n d : Nat) : Int) := by omega
    constructor
    · intro h
      apply Classical.byContradiction
      intro hno
      have := Int.ediv_nonneg (a := sgn neg n) (b := ((Nat.gcd n d : Nat) : Int)) (by omega) (by omega)
      omega
    · intro h
      exact Int.ediv_neg_of_neg_of_pos h hg'
theorem frac_self (q : Rat) : frac (decide (q.num < 0)) q.num.natAbs q.den = q := by
  have e : sgn (decide (q.num < 0)) q.num.natAbs = q.num := by
    unfold sgn
    by_cases h : q.num < 0
    · simp [h]; omega
    · simp [h]; omega
  unfold frac
  rw [e]
  exact Rat.num_divInt_den q
theorem sgn_mul (a b : Bool) (m n : Nat) : sgn a m * sgn b n = sgn (a != b) (m * n) := by
  unfold sgn
  cases a <;> cases b <;> simp [Int.neg_mul, Int.mul_neg]
theorem frac_times {a b : Bool} {m n d e : Nat} : frac a m d * frac b n e = frac (a != b) (m * n) (d * e) := by
  unfold frac
  rw [Rat.divInt_mul_divInt, sgn_mul]
  simp
theorem frac_plus {a b : Bool} {m n d e : Nat} (hd : d ≠ 0) (he : e ≠ 0) : frac a m d + frac b n e = Rat.divInt (sgn a (m * e) + sgn b (n * d)) ((d * e : Nat) : Int) := by
  unfold frac
  rw [Rat.divInt_add_divInt _ _ (by omega) (by omega)]
  have h : ∀ (a : Bool) (m e : Nat), sgn a m * (e : Int) = sgn a (m * e) := fun a m e => by unfold sgn; cases a <;> simp [Int.neg_mul]
  rw [h, h]
  simp
theorem frac_neg (a : Bool) (n d : Nat) : - frac a n d = frac (!a) n d := by
  unfold frac
  rw [Rat.neg_divInt]
  congr 1
  unfold sgn
  cases a <;> simp
/-- The sum, as it is made of two signs and two numbers. -/
theorem frac_sum {a b : Bool} {m n d e : Nat} (hd : d ≠ 0) (he : e ≠ 0) :
    frac a m d + frac b n e = (if a = b then frac a (m * e + n * d) (d * e) else if n * d ≤ m * e then frac a (m * e - n * d) (d * e) else frac b (n * d - m * e) (d * e)) := by
  rw [frac_plus hd he]
  unfold frac
  have h : ∀ (x y : Nat) (k : Int), Rat.divInt (sgn a x + sgn b y) k = if a = b then Rat.divInt (sgn a (x + y)) k else if y ≤ x then Rat.divInt (sgn a (x - y)) k else Rat.divInt (sgn b (y - x)) k := fun x y k => by
    by_cases hab : a = b
    · subst hab
      rw [if_pos rfl]
      congr 1
      unfold sgn
      cases a <;> simp <;> omega
    · rw [if_neg hab]
      by_cases hxy : y ≤ x
      · rw [if_pos hxy]
        congr 1
        unfold sgn
        cases a <;> cases b <;> simp at hab ⊢ <;> omega
      · rw [if_neg hxy]
        congr 1
        unfold sgn
        cases a <;> cases b <;> simp at hab ⊢ <;> omega
  exact h _ _ _
theorem frac_over {a b : Bool} {m n d e : Nat} : frac a m d / frac b n e = frac (a != b) (m * e) (d * n) := by
  rw [Rat.div_def]
  have hi : (frac b n e)⁻¹ = frac b e n := by
    unfold frac
    rw [Rat.inv_divInt]
    cases b with
    | false => rfl
    | true =>
      have h1 : sgn true n = -(n : Int) := rfl
      have h2 : sgn true e = -(e : Int) := rfl
      rw [h1, h2, Rat.divInt_neg']
  rw [hi, frac_times]

/-- A guess by the highest limbs, with one more below, is not too great. -/
theorem guess_le {R c l top : Nat} (_hc : 0 < c) (ht : c < (top + 1) * B ^ (l - 1)) : R / B ^ (l - 1) / (top + 1) * c ≤ R := by
  have hp := pow_pos' (l - 1)
  have h1 : R / B ^ (l - 1) / (top + 1) * ((top + 1) * B ^ (l - 1)) ≤ R := by
    rw [Nat.div_div_eq_div_mul, Nat.mul_comm (B ^ (l - 1))]
    exact Nat.div_mul_le_self _ _
  exact Nat.le_trans (Nat.mul_le_mul_left _ (Nat.le_of_lt ht)) h1
/-- What is left, with one more limb. -/
theorem rest_step (x c i : Nat) : (x / B ^ (i + 1) % c * B + limb x i) % c = x / B ^ i % c ∧ (x / B ^ (i + 1) / c * B + (x / B ^ (i + 1) % c * B + limb x i) / c) = x / B ^ i / c := by
  have e := div_step x i
  have d1 := Nat.div_add_mod (x / B ^ (i + 1)) c
  have k : x / B ^ i = c * (x / B ^ (i + 1) / c * B) + (x / B ^ (i + 1) % c * B + limb x i) := by
    rw [e]
    have h : B * (x / B ^ (i + 1)) = c * (x / B ^ (i + 1) / c * B) + x / B ^ (i + 1) % c * B := by
      conv => lhs; rw [← d1]
      rw [Nat.mul_add]
      congr 1
      · ac_rfl
      · exact Nat.mul_comm _ _
    rw [h]; omega
  rw [k]
  refine ⟨by rw [Nat.mul_add_mod], ?_⟩
  rcases Nat.eq_zero_or_pos c with hc | hc
  · subst hc; simp
  · rw [Nat.mul_add_div hc]
/-- Both scaled alike: the quotient stays, the rest is scaled. -/
theorem scale_div {a b d : Nat} (hd : 0 < d) : a * d / (b * d) = a / b ∧ a * d % (b * d) / d = a % b := by
  refine ⟨Nat.mul_div_mul_right _ _ hd, ?_⟩
  rw [Nat.mul_mod_mul_right, Nat.mul_div_cancel _ hd]
/-- One step of Euclid's. -/
theorem gcd_step {a b : Nat} : Nat.gcd a b = Nat.gcd b (a % b) := by
  rw [Nat.gcd_comm a b, Nat.gcd_rec, Nat.gcd_comm]
/-- The highest limb of the divisor, made great. -/
theorem top_great {b k : Nat} (hb : LenIs b (k + 1)) : LenIs (b * (B / (limb b k + 1))) (k + 1) ∧ 0 < B / (limb b k + 1) ∧ B / (limb b k + 1) < B ∧ B / 2 ≤ limb (b * (B / (limb b k + 1))) k := by
  have ht := hb.top
  have hl := limb_lt b k
  have e := low_succ b k
  rw [low_high hb.1] at e
  have hlow := low_lt b k
  obtain ⟨t, hts⟩ : ∃ t, limb b k = t := ⟨_, rfl⟩
  obtain ⟨r, hr⟩ : ∃ r, b % B ^ k = r := ⟨_, rfl⟩
  obtain ⟨P, hP⟩ : ∃ P, B ^ k = P := ⟨_, rfl⟩
  obtain ⟨d, hd⟩ : ∃ d, B / (limb b k + 1) = d := ⟨_, rfl⟩
  rw [hd]
  rw [hts] at hd ht hl e
  rw [hr, hP] at e
  rw [hr, hP] at hlow
  have hPp : 0 < P := by rw [← hP]; exact pow_pos' k
  have hd0 : 0 < d := by rw [← hd]; exact Nat.div_pos (by omega) (by omega)
  have hdB : d < B := by rw [← hd]; exact Nat.div_lt_self B_pos (by omega)
  have hdm : d * (t + 1) ≤ B := by rw [← hd]; exact Nat.div_mul_le_self _ _
  have hdm2 : B < d * (t + 1) + (t + 1) := by
    have := Nat.lt_div_mul_add (a := B) (b := t + 1) (by omega)
    rw [hd] at this
    exact this
  -- b d < B^(k+1)
  have hlt : b * d < P * B := by
    have h1 : b < P * (t + 1) := by rw [Nat.mul_add, Nat.mul_one]; omega
    have h2 : b * d < P * (t + 1) * d := Nat.mul_lt_mul_of_pos_right h1 hd0
    have h3 : P * (t + 1) * d ≤ P * B := by rw [Nat.mul_assoc, Nat.mul_comm (t + 1)]; exact Nat.mul_le_mul_left _ hdm
    omega
  have hge : P * (t * d) ≤ b * d := by
    have h1 : P * t ≤ b := by omega
    have := Nat.mul_le_mul_right d h1
    rw [Nat.mul_assoc] at this
    exact this
  have htd : t * d ≤ b * d / P := (Nat.le_div_iff_mul_le hPp).2 (by rw [Nat.mul_comm]; exact hge)
  have hlimb : limb (b * d) k = b * d / P := by
    unfold limb
    rw [hP]
    exact Nat.mod_eq_of_lt (Nat.div_lt_of_lt_mul hlt)
  have htop : B / 2 ≤ t * d := by
    have hBB : B = 1000000000 := rfl
    rw [Nat.mul_comm]
    rw [Nat.mul_add, Nat.mul_one] at hdm hdm2
    -- B < d t + d + t + 1, d ≤ d t, t ≤ d t
    have k1 : d ≤ d * t := Nat.le_mul_of_pos_right d (by omega)
    have k2 : t ≤ d * t := Nat.le_mul_of_pos_left t hd0
    by_cases h1 : t = 1
    · subst h1; omega
    · by_cases h2 : d = 1
      · subst h2; omega
      · have k3 : 2 * t ≤ d * t := Nat.mul_le_mul_right t (by omega)
        have k4 : d * 2 ≤ d * t := Nat.mul_le_mul_left d (by omega)
        omega
  have hP1 : B ^ (k + 1) = P * B := by rw [Nat.pow_succ, hP]
  refine ⟨⟨by rw [hP1]; exact hlt, .inr ?_⟩, hd0, hdB, by rw [hlimb]; exact Nat.le_trans htop htd⟩
  rw [Nat.add_sub_cancel, hP]
  have : P * 1 ≤ P * (t * d) := Nat.mul_le_mul_left _ (Nat.mul_pos (by omega) hd0)
  omega
end Go.Num
namespace Go.Num
open Go.RowKit Go.Proofs Go.Proofs.YtepakfjilnpodaaGreatDoor

theorem _root_.Go.RowKit.Hid.intro {p : Prop} (h : p) : Hid p := h
@[simp] theorem wide_fn (f : FuncId) : Fence.wide.fn f := trivial
@[simp] theorem wide_depth : Fence.wide.depth = none := rfl
def Stop (p : Prop) : Prop := p
theorem stop {p : Prop} (h : Stop p) : p := h
theorem add_block (a : Addr) (i : Nat) : (a.add i).block = a.block := by
  unfold Addr.add
  split <;> rfl
def intOf : Value → Int
  | .int _ n => n
  | _ => 0
theorem drewN_below (w : World) (m : Nat) : Below w.heap.size w (w.drewN m) := ⟨rfl, rfl, rfl, Nat.le_refl _, fun _ _ => rfl⟩

theorem drew2_below (w : World) (m n : Nat) : Below w.heap.size w ((w.drewN m).drewN n) := ⟨rfl, rfl, rfl, Nat.le_refl _, fun _ _ => rfl⟩

/-- A block of cells of a type. -/
def Elem (w : World) (b : Nat) (e : TypeId) : Prop := ∃ cs fz, w.heap[b]? = some (.cells cs e fz)
theorem Elem.lt {w : World} {b : Nat} {e : TypeId} (h : Elem w b e) : b < w.heap.size := by
  obtain ⟨cs, fz, h⟩ := h
  exact (Array.getElem?_eq_some_iff.1 h).1
theorem Elem.of_block {w w' : World} {b : Nat} {e : TypeId} (h : Elem w b e) (hb : w'.heap[b]? = w.heap[b]?) : Elem w' b e := by
  obtain ⟨cs, fz, h⟩ := h
  exact ⟨cs, fz, hb.trans h⟩
theorem Elem.below {w w' : World} {b : Nat} {e : TypeId} {c : Nat} (h : Elem w b e) (hb : Below c w w') (hc : b < c) : Elem w' b e := h.of_block (hb.block b hc)
theorem Elem.setCell {w : World} {b : Nat} {e : TypeId} (h : Elem w b e) (a : Addr) (v : Value) : Elem (w.setCell a v) b e := by
  obtain ⟨cs, fz, h⟩ := h
  by_cases he : b = a.block
  · subst he
    have hm : (w.setCell a v).heap[a.block]? = (w.heap.modify a.block fun | .cells c elem frozen => .cells (if a.spot.isSome then c else c.setIfInBounds a.off v) elem frozen | o => o)[a.block]? := rfl
    rw [Array.getElem?_modify, if_pos rfl, h] at hm
    exact ⟨_, _, hm⟩
  · exact ⟨cs, fz, (Below.heap_setCell _ _ _ _ he).trans h⟩
theorem elem_new (w : World) (cs : Array Value) (e : TypeId) : Elem (w.alloc (.cells cs e)) w.heap.size e := ⟨cs, (0, 0), by show (w.heap.push _)[w.heap.size]? = _; simp⟩
theorem Elem.ne {w : World} {b c : Nat} {e f : TypeId} (h : Elem w b e) (h' : Elem w c f) (hef : e ≠ f) : b ≠ c := by
  rintro rfl
  obtain ⟨cs, fz, h⟩ := h
  obtain ⟨cs', fz', h'⟩ := h'
  rw [h] at h'
  injection h' with h'
  injection h' with _ h'
  exact hef h'
/-- So many limbs of a number lie here. -/
def LimbsAt (w : World) (v : Value) (n k : Nat) : Prop :=
  (k = 0 ∧ ∃ o c, v = .slice o 0 c) ∨ ∃ (a : Addr) (cap : Nat), v = .slice (some a) k cap ∧ 0 < k ∧ k ≤ cap ∧ (k ≤ 1000000000 ∧ cap ≤ 9223372036854775807) ∧ Elem w a.block 116 ∧ ∀ i, i < k → w.cell? (a.add i) = some (.int .u64 ((limb n i : Nat) : Int))
/-- A magnitude: just its limbs. -/
def MagAt (w : World) (v : Value) (n : Nat) : Prop := ∃ k, LenIs n k ∧ LimbsAt w v n k
theorem LimbsAt.below {w w' : World} {v : Value} {n k : Nat} (h : LimbsAt w v n k) (hb : Below w.heap.size w w') : LimbsAt w' v n k := by
  rcases h with h | ⟨a, cap, h1, h2, h3, h4, h5, h6⟩
  · exact .inl h
  · exact .inr ⟨a, cap, h1, h2, h3, h4, h5.below hb h5.lt, fun i hi => (hb.cell (p := a.add i) (by rw [add_block]; exact h5.lt)).trans (h6 i hi)⟩
theorem LimbsAt.form {w : World} {v : Value} {n k : Nat} (h : LimbsAt w v n k) : ∃ o c, v = .slice o k c ∧ (0 < k → ∃ a : Addr, o = some a ∧ a.block < w.heap.size ∧ ∀ i, i < k → w.cell? (a.add i) = some (.int .u64 ((limb n i : Nat) : Int))) := by
  rcases h with ⟨rfl, o, c, rfl⟩ | ⟨a, cap, rfl, h2, h3, h4, h5, h6⟩
  · exact ⟨o, c, rfl, fun h => by omega⟩
  · exact ⟨some a, cap, rfl, fun _ => ⟨a, rfl, h5.lt, h6⟩⟩
theorem LimbsAt.elem {w : World} {a : Addr} {n k c : Nat} (h : LimbsAt w (.slice (some a) k c) n k) (hk : 0 < k) : Elem w a.block 116 := by
  rcases h with ⟨rfl, _⟩ | ⟨a', cap, e, h2, h3, h4, h5, h6⟩
  · omega
  · injection e with e _ _
    injection e with e
    subst e
    exact h5
theorem LimbsAt.small {w : World} {v : Value} {n k : Nat} (h : LimbsAt w v n k) : k ≤ 1000000000 := by
  rcases h with ⟨rfl, _⟩ | ⟨a, cap, rfl, h2, h3, h4, h5, h6⟩ <;> omega

/-- Which of two numbers is less. -/
def CmpIs (x y : Nat) (r : Int) : Prop := (r < 0 ↔ x < y) ∧ (r = 0 ↔ x = y)
theorem cmp_len {x y k l : Nat} (hx : LenIs x k) (hy : LenIs y l) (h : k < l) : x < y := by
  have := pow_mono (i := k) (j := l - 1) (by omega)
  have h1 := hx.1
  have h2 := hy.2
  omega

set_option maxRecDepth 100000 in
set_option maxHeartbeats 4000000 in
/-- **'cmp' of magnitudes.** -/
theorem cmp_calls (w : World) (va vb : Value) (x y : Nat) (ha : MagAt w va x) (hb : MagAt w vb y) :
    CallsIn Fence.wide 0 Tryz.prog 135 #[va, vb] w fun e w' => ∃ r : Int, CmpIs x y r ∧ e = .returned (.int .i64 r) ∧ Below w.heap.size w w' := by
  obtain ⟨k, hk, hla⟩ := ha
  obtain ⟨l, hl, hlb⟩ := hb
  have hks := hla.small
  have hls := hlb.small
  obtain ⟨o1, c1, rfl, h1⟩ := hla.form
  obtain ⟨o2, c2, rfl, h2⟩ := hlb.form
  have H1 := Hid.intro h1
  have H2 := Hid.intro h2
  have HK := Hid.intro hk
  have HL := Hid.intro hl
  clear h1 h2 hk hl hla hlb
  refine callsIn_of_wp Tryz.func135 rfl trivial ?_ rfl
  simp only [Tryz.ntmps135, List.size_toArray, List.length_cons, List.length_nil, Nat.reduceAdd, Nat.reduceSub, Array.replicate_succ, Array.replicate_zero, List.push_toArray, List.append_toArray, List.nil_append, List.cons_append]
  by_cases hkl : k = l
  · subst hkl
    gi_wp2
    gi_loopw [5] (fun i wr => ∃ i0 : Int, -1 ≤ i0 ∧ i0 < k ∧ i = .int .i64 i0 ∧ Hid (x / B ^ (i0 + 1).toNat = y / B ^ (i0 + 1).toNat) ∧ Hid (Below w.heap.size w wr)) (fun i _ => (intOf i + 1).toNat)
    case atStart => exact ⟨(k : Int) - 1, by omega, by omega, rfl, Hid.intro (by
      rw [show ((k : Int) - 1 + 1).toNat = k by omega, Nat.div_eq_of_lt HK.out.1, Nat.div_eq_of_lt HL.out.1]), Below.refl _ _⟩
    case round =>
      obtain ⟨i0, hi1, hi2, rfl, HE, HB⟩ := hrel
      by_cases h0 : 0 ≤ i0
      · obtain ⟨m, rfl⟩ : ∃ m : Nat, i0 = (m : Int) := ⟨i0.toNat, by omega⟩
        obtain ⟨a1, rfl, ha1, hc1⟩ := H1.out (by omega)
        obtain ⟨a2, rfl, ha2, hc2⟩ := H2.out (by omega)
        have p1 := (HB.out.cell (p := a1.add m) (by rw [add_block]; exact ha1)).trans (hc1 m (by omega))
        have p2 := (HB.out.cell (p := a2.add m) (by rw [add_block]; exact ha2)).trans (hc2 m (by omega))
        rw [show ((m : Int) + 1).toNat = m + 1 by omega] at HE
        have dx := div_step x m
        have dy := div_step y m
        obtain ⟨lx, hlx⟩ : ∃ l, limb x m = l := ⟨_, rfl⟩
        obtain ⟨ly, hly⟩ : ∃ l, limb y m = l := ⟨_, rfl⟩
        rw [hlx] at p1 dx
        rw [hly] at p2 dy
        rw [HE.out] at dx
        have HX := Hid.intro dx
        have HY := Hid.intro dy
        clear hc1 hc2 hlx hly dx dy
        by_cases he : lx = ly
        · subst he
          have hee : ((lx : Int) != (lx : Int)) = false := by simp
          gi_wp2
          gi_quiet (fail)
          gi_wp2
          refine ⟨⟨(m : Int) - 1, by omega, by omega, by go_num, Hid.intro ?_, HB.out.trans ((drewN_below _ _).mono HB.out.size)⟩, by simp [intOf]⟩
          rw [show ((m : Int) - 1 + 1).toNat = m by omega, HX.out, HY.out]
        · have he' : ¬ (lx : Int) = (ly : Int) := by omega
          have he2 : ((lx : Int) != (ly : Int)) = true := by simp; omega
          have hcm : x / B ^ m < y / B ^ m ↔ lx < ly := by rw [HX.out, HY.out]; omega
          have hxy : CmpIs x y (if lx < ly then -1 else 1) := by
            have h1 : lx < ly → x < y := fun h => by
              apply Classical.byContradiction
              intro hno
              have := Nat.div_le_div_right (c := B ^ m) (show y ≤ x by omega)
              have := hcm.2 h
              omega
            have h2 : ¬ lx < ly → y < x := fun h => by
              apply Classical.byContradiction
              intro hno
              have h3 := Nat.div_le_div_right (c := B ^ m) (show x ≤ y by omega)
              rw [HX.out, HY.out] at h3
              omega
            by_cases h : lx < ly
            · rw [if_pos h]; have := h1 h; exact ⟨by omega, by omega⟩
            · rw [if_neg h]; have := h2 h; exact ⟨by omega, by omega⟩
          have HXY := Hid.intro hxy
          clear hxy hcm
          gi_wp2
          gi_quiet (fail)
          gi_wp2
          by_cases hlt : lx < ly
          · have hl1 : decide ((lx : Int) < (ly : Int)) = true := by simp; omega
            have hl2 : (lx : Int) < (ly : Int) := by omega
            rw [if_pos hlt] at HXY
            gi_quiet (fail)
            gi_wp2
            all_goals (first | go_returns | go_ret | go_end0)
            exact ⟨-1, HXY.out, rfl, HB.out.trans (Below.mono (by first | exact drewN_below _ _ | exact drew2_below _ _ _) HB.out.size)⟩
          · have hl1 : decide ((lx : Int) < (ly : Int)) = false := by simp; omega
            have hl2 : ¬ (lx : Int) < (ly : Int) := by omega
            rw [if_neg hlt] at HXY
            gi_quiet (fail)
            gi_wp2
            all_goals (first | go_returns | go_ret | go_end0)
            exact ⟨1, HXY.out, rfl, HB.out.trans (Below.mono (by first | exact drewN_below _ _ | exact drew2_below _ _ _) HB.out.size)⟩
      · have hm1 : i0 = -1 := by omega
        subst hm1
        have hxy : x = y := by
          have := HE.out
          simpa using this
        gi_wp2
        all_goals (first | go_returns | go_ret | go_end0)
        exact ⟨0, ⟨by omega, by omega⟩, rfl, HB.out⟩
  · have hkl' : ¬ (k : Int) = (l : Int) := by omega
    gi_wp2
    all_goals (first | go_returns | go_ret | go_end0)
    refine ⟨(k : Int) - (l : Int), ⟨?_, ?_⟩, rfl, Below.refl _ _⟩
    · constructor
      · intro h; exact cmp_len HK.out HL.out (by omega)
      · intro h
        apply Classical.byContradiction
        intro hno
        have := cmp_len HL.out HK.out (by omega)
        omega
    · constructor
      · intro h; omega
      · intro h; subst h; exact absurd (HK.out.unique HL.out) hkl

set_option maxRecDepth 100000 in
set_option maxHeartbeats 4000000 in
/-- **'trim' of limbs.** -/
theorem trim_calls (w : World) (v : Value) (n k : Nat) (h : LimbsAt w v n k) (hn : n < B ^ k) :
    CallsIn Fence.wide 0 Tryz.prog 138 #[v] w fun e w' => ∃ v', e = .returned v' ∧ (MagAt w' v' n ∧ v'.ownBlock = v.ownBlock) ∧ Below w.heap.size w w' := by
  have hks := h.small
  have HLA := Hid.intro h
  obtain ⟨o, c, rfl, h1⟩ := h.form
  have H1 := Hid.intro h1
  have HN := Hid.intro hn
  have hkc : k ≤ c ∧ c ≤ 9223372036854775807 ∨ k = 0 := by
    rcases h with ⟨h0, _⟩ | ⟨a, cap, hv, h2, h3, h4, h5, h6⟩
    · exact .inr h0
    · injection hv with _ _ hc
      left; omega
  clear h h1 hn
  refine callsIn_of_wp Tryz.func138 rfl trivial ?_ rfl
  simp only [Tryz.ntmps138, List.size_toArray, List.length_cons, List.length_nil, Nat.reduceAdd, Nat.reduceSub, Array.replicate_succ, Array.replicate_zero, List.push_toArray, List.append_toArray, List.nil_append, List.cons_append]
  gi_wp2
  gi_loopw [3] (fun i wr => ∃ j : Nat, j ≤ k ∧ i = .int .i64 (j : Int) ∧ Hid (n < B ^ j) ∧ Hid (Below w.heap.size w wr)) (fun i _ => (intOf i).toNat)
  case atStart => exact ⟨k, Nat.le_refl _, rfl, HN.out, Below.refl _ _⟩
  case round =>
    obtain ⟨j, hj, rfl, HJ, HB⟩ := hrel
    by_cases h0 : 0 < j
    · obtain ⟨m, rfl⟩ : ∃ m, j = m + 1 := ⟨j - 1, by omega⟩
      obtain ⟨a, rfl, ha, hc⟩ := H1.out (by omega)
      have p := (HB.out.cell (p := a.add m) (by rw [add_block]; exact ha)).trans (hc m (by omega))
      obtain ⟨l, hl⟩ : ∃ l, limb n m = l := ⟨_, rfl⟩
      rw [hl] at p
      have HLm := Hid.intro hl
      clear hc hl
      by_cases hz : l = 0
      · subst hz
        gi_wp2
        exact ⟨⟨m, by omega, rfl, lt_of_zero HJ.out HLm.out, HB.out⟩, by simp [intOf]⟩
      · have hz' : ¬ (l : Int) = 0 := by omega
        gi_wp2
        all_goals (first | go_returns | go_ret | go_end0)
        obtain ⟨a', e', ha', hc⟩ := H1.out (by omega)
        injection e' with e'
        subst e'
        exact ⟨_, rfl, ⟨⟨m + 1, lenIs_of HJ.out (by rw [HLm.out]; exact hz), .inr ⟨a, m + 1, rfl, by omega, Nat.le_refl _, by omega, (HLA.out.elem (by omega)).below HB.out ha, fun i hi => (HB.out.cell (p := a.add i) (by rw [add_block]; exact ha)).trans (hc i (by omega))⟩⟩, rfl⟩, HB.out⟩
    · have hj0 : j = 0 := by omega
      subst hj0
      gi_wp2
      all_goals (first | go_returns | go_ret | go_end0)
      exact ⟨_, rfl, ⟨⟨0, ⟨HJ.out, .inl rfl⟩, .inl ⟨rfl, o, 0, rfl⟩⟩, by cases o <;> rfl⟩, HB.out⟩

theorem mag_one {w : World} {v : Value} {n : Nat} (h : MagAt w v n) : (∃ o c, v = .slice o 1 c ∧ 0 < n ∧ n < B ∧ ∃ a : Addr, o = some a ∧ a.block < w.heap.size ∧ w.cell? (a.add 0) = some (.int .u64 (n : Int))) ∨ (∃ o k c, v = .slice o k c ∧ k ≠ 1 ∧ k ≤ 1000000000 ∧ n ≠ 1) := by
  obtain ⟨k, hk, hl⟩ := h
  have hs := hl.small
  obtain ⟨o, c, rfl, h1⟩ := hl.form
  by_cases hk1 : k = 1
  · subst hk1
    left
    obtain ⟨a, rfl, ha, hc⟩ := h1 (by omega)
    have h2 := hk.1
    have h3 := hk.2
    rw [Nat.pow_one] at h2
    simp at h3
    refine ⟨_, _, rfl, by omega, h2, a, rfl, ha, ?_⟩
    rw [hc 0 (by omega)]
    have : limb n 0 = n := by unfold limb; rw [Nat.pow_zero, Nat.div_one, Nat.mod_eq_of_lt h2]
    rw [this]
  · right
    refine ⟨o, k, c, rfl, hk1, hs, fun e => hk1 ?_⟩
    subst e
    exact hk.unique ⟨by rw [Nat.pow_one]; decide, .inr (by simp)⟩

set_option maxRecDepth 100000 in
set_option maxHeartbeats 4000000 in
/-- **'isOne' of a magnitude.** -/
theorem isOne_calls (w : World) (v : Value) (n : Nat) (h : MagAt w v n) :
    CallsIn Fence.wide 0 Tryz.prog 168 #[v] w fun e w' => e = .returned (.bool (decide (n = 1))) ∧ Below w.heap.size w w' := by
  rcases mag_one h with ⟨o, c, rfl, h0, hB, a, rfl, ha, hc⟩ | ⟨o, k, c, rfl, hk, hs, hn⟩
  · have hc' : w.cell? a = some (.int .u64 (n : Int)) := hc
    clear h
    refine callsIn_of_wp Tryz.func168 rfl trivial ?_ rfl
    simp only [Tryz.ntmps168, List.size_toArray, List.length_cons, List.length_nil, Nat.reduceAdd, Nat.reduceSub, Array.replicate_succ, Array.replicate_zero, List.push_toArray, List.append_toArray, List.nil_append, List.cons_append]
    by_cases h1 : n = 1
    · subst h1
      gi_wp2
      all_goals (first | go_returns | go_ret | go_end0)
      exact ⟨by simp, Below.refl _ _⟩
    · have h1' : ¬ (n : Int) = 1 := by omega
      gi_wp2
      all_goals (first | go_returns | go_ret | go_end0)
      exact ⟨by simp [h1]; exact h1', Below.refl _ _⟩
  · have hk' : ¬ (k : Int) = 1 := by omega
    clear h
    refine callsIn_of_wp Tryz.func168 rfl trivial ?_ rfl
    simp only [Tryz.ntmps168, List.size_toArray, List.length_cons, List.length_nil, Nat.reduceAdd, Nat.reduceSub, Array.replicate_succ, Array.replicate_zero, List.push_toArray, List.append_toArray, List.nil_append, List.cons_append]
    gi_wp2
    all_goals (first | go_returns | go_ret | go_end0)
    exact ⟨by simp [hn], Below.refl _ _⟩

/-- A value that lies in no elder block. -/
def Fresh (b : Nat) (v : Value) : Prop := ∀ k, v.ownBlock = some k → b ≤ k
theorem fresh_of {b m c : Nat} {a : Addr} {v : Value} (h : v.ownBlock = (Value.slice (some a) m c).ownBlock) (hg : b ≤ a.block) : Fresh b v := by
  intro k hk
  rw [h] at hk
  have : a.block = k := by simpa [Value.ownBlock] using hk
  omega
theorem Fresh.mono {b b' : Nat} {v : Value} (h : Fresh b v) (hb : b' ≤ b) : Fresh b' v := fun k hk => Nat.le_trans hb (h k hk)
theorem u64_small {x : Nat} (h : x < 18446744073709551616) : IntKind.u64.wrap (x : Int) = (x : Int) := by
  have e : IntKind.u64.wrap (x : Int) = (x : Int) % 18446744073709551616 := rfl
  rw [e]
  omega

set_option maxRecDepth 100000 in
set_option maxHeartbeats 4000000 in
/-- **'magOf' a number.** -/
theorem magOf_calls (w : World) (n : Nat) (hn : n < 18446744073709551616) :
    CallsIn Fence.wide 0 Tryz.prog 72 #[.int .u64 (n : Int)] w fun e w' => ∃ v', e = .returned v' ∧ (MagAt w' v' n ∧ Fresh w.heap.size v') ∧ Below w.heap.size w w' := by
  have r0 : ((n : Int).tmod 1000000000) = ((limb n 0 : Nat) : Int) := by
    unfold limb B
    rw [Nat.pow_zero, Nat.div_one]
    rfl
  have q1 : ((n : Int).tdiv 1000000000) = ((n / 1000000000 : Nat) : Int) := rfl
  have r1 : (((n / 1000000000 : Nat) : Int).tmod 1000000000) = ((limb n 1 : Nat) : Int) := by
    unfold limb B
    rw [Nat.pow_one]
    rfl
  have q2 : (((n / 1000000000 : Nat) : Int).tdiv 1000000000) = ((limb n 2 : Nat) : Int) := by
    have h : limb n 2 = n / 1000000000 / 1000000000 := by
      unfold limb B
      rw [Nat.div_div_eq_div_mul]
      omega
    rw [h]
    rfl
  obtain ⟨l0, hl0⟩ : ∃ l, limb n 0 = l := ⟨_, rfl⟩
  obtain ⟨l1, hl1⟩ : ∃ l, limb n 1 = l := ⟨_, rfl⟩
  obtain ⟨l2, hl2⟩ : ∃ l, limb n 2 = l := ⟨_, rfl⟩
  obtain ⟨d, hd⟩ : ∃ d, n / 1000000000 = d := ⟨_, rfl⟩
  rw [hl0] at r0
  rw [hd] at q1
  rw [hd, hl1] at r1
  rw [hd, hl2] at q2
  have hdn : d < 18446744073709551616 := by omega
  have hl2B : l2 < B := by rw [← hl2]; exact limb_lt n 2
  have hBB : B = 1000000000 := rfl
  have w1 := u64_small hdn
  have w2 := u64_small (x := l2) (by omega)
  have HL0 := Hid.intro hl0
  have HL1 := Hid.intro hl1
  have HL2 := Hid.intro hl2
  clear hl0 hl1 hl2 hd
  refine callsIn_of_wp Tryz.func72 rfl trivial ?_ rfl
  simp only [Tryz.ntmps72, List.size_toArray, List.length_cons, List.length_nil, Nat.reduceAdd, Nat.reduceSub, Array.replicate_succ, Array.replicate_zero, List.push_toArray, List.append_toArray, List.nil_append, List.cons_append]
  gi_wp2_with (gi_at_call 138; refine stop ?_)
  unfold Stop
  refine (trim_calls _ _ n 3 (.inr ⟨⟨w.heap.size, 0, none⟩, 3, rfl, by omega, Nat.le_refl _, by omega, elem_new _ _ _, fun i hi => ?_⟩) ?_).mono ?_
  · rw [Addr.add_lit, Nat.zero_add, World.cell?_alloc_new]
    have h3 : i = 0 ∨ i = 1 ∨ i = 2 := by omega
    rcases h3 with rfl | rfl | rfl
    · rw [HL0.out]; rfl
    · rw [HL1.out]; rfl
    · rw [HL2.out]; rfl
  · have : B ^ 3 = 1000000000000000000000000000 := by decide
    omega
  · rintro e w2 ⟨v', rfl, hm, hB⟩
    have HM := Hid.intro hm
    have HB := Hid.intro (((Below.refl w.heap.size w).alloc (Nat.le_refl _) _).trans (hB.mono (by simp)))
    clear hm hB
    gi_wp2
    all_goals (first | go_returns | go_ret | go_end0)
    exact ⟨_, rfl, ⟨HM.out.1, fresh_of HM.out.2 (Nat.le_refl _)⟩, HB.out⟩

theorem wpListIn_make_full {F : Fence} {n : Nat} {P : Program} (w : World) {ops : Array Oper} {rest : List Oper} {o : Oper} {a : Act} {Q : Exit → Act → World → Prop}
    (hg : o.guard = none) (l c : Operand) (t : TypeId) (hop : o.op = Op.makeSlice t l c)
    (base : Nat) (e : TypeId) (i : TypeInfo) (z : Value) (size : Nat) (h1 : P.underlying t = some (.slice e)) (h2 : P.info? e = some i) (h3 : i.zero = some z) (h4 : i.size = size)
    (kl kc : IntKind) (L C : Int) (m : Nat) (hl : a.eval l = .int kl L) (hc : a.eval c = .int kc C) (hL : L = (m : Int)) (hC : C = (m : Int)) (b2 : i.bytes * m ≤ 281474976710656) (b3 : m ≤ maxLen) (b4 : base ≤ w.heap.size)
    (hK : ∀ w', w'.ownsRow base e size (.slice (some ⟨w.heap.size, 0, none⟩) m m) m (madeCells z.cells (m * size)).toList → w.grownBy w' none → wpListIn F n P ops Q rest (a.put o.dst (.slice (some ⟨w.heap.size, 0, none⟩) m m)) w') :
    wpListIn F n P ops Q (o :: rest) a w := by
  refine wpListIn_plain hg fun K hK' => ?_
  obtain ⟨w', hrun, r1, r2⟩ := run_make_full (P := P) w base t e i z size h1 h2 h3 h4 kl kc m b2 b3 b4
  subst hL
  subst hC
  unfold Oper.wpIn
  refine ⟨?_, ?_⟩
  · simp [Oper.about, hop]
  · rw [Oper.semAt_plain F _ _ (by rw [hop]; intro c hc'; cases hc')]
    simp [execOp, hop, hl, hc, hrun, Result.andThen]
    exact hK' _ _ (hK w' r1 r2)

/-- A row of cells of the call's own. -/
def ArrAt (w : World) (g n : Nat) (f : Nat → Value) : Prop := ∀ i, i < n → w.cell? ⟨g, i, none⟩ = some (f i) ∧ w.frozen? ⟨g, i, none⟩ = false

theorem ArrAt.set {w : World} {g n : Nat} {f : Nat → Value} (h : ArrAt w g n f) {i : Nat} (hi : i < n) (v : Value) : ArrAt (w.setCell ⟨g, i, none⟩ v) g n (fun j => if j = i then v else f j) := by
  intro j hj
  refine ⟨?_, by rw [World.frozen?_setCell]; exact (h j hj).2⟩
  by_cases e : j = i
  · subst e
    simp only [if_true]
    exact World.cell?_setCell_same _ _ _ (h j hj).1
  · simp only [if_neg e]
    rw [World.cell?_setCell_other _ _ _ _ (by intro q; injection q; omega)]
    exact (h j hj).1
theorem ArrAt.congr {w : World} {g n : Nat} {f f' : Nat → Value} (h : ArrAt w g n f) (e : ∀ i, i < n → f i = f' i) : ArrAt w g n f' := fun i hi => by rw [← e i hi]; exact h i hi
theorem ArrAt.below {w w' : World} {g n B : Nat} {f : Nat → Value} (h : ArrAt w g n f) (hg : g < B) (hb : Below B w w') : ArrAt w' g n f := fun i hi => by
  rw [hb.cell (p := ⟨g, i, none⟩) hg, hb.frozen (p := ⟨g, i, none⟩) hg]; exact h i hi
theorem ArrAt.of_row {w : World} {base : Nat} {e : TypeId} {g n cap : Nat} {xs : List Value} (h : w.ownsRow base e 1 (.slice (some ⟨g, 0, none⟩) n cap) n xs) {f : Nat → Value} (hf : ∀ i, i < n → xs[i]? = some (f i)) : ArrAt w g n f :=
  fun i hi => ⟨(h.cellAt i (by omega)).trans (hf i hi), h.frozenAt i⟩

theorem ArrAt.new (w : World) (cs : Array Value) (t : TypeId) {n : Nat} {f : Nat → Value} (h : ∀ i, i < n → cs[i]? = some (f i)) : ArrAt (w.alloc (.cells cs t)) w.heap.size n f :=
  fun i hi => ⟨by rw [World.cell?_alloc_new]; exact h i hi, World.frozen?_alloc_new _ _ _ _⟩
theorem ArrAt.alloc {w : World} {g n : Nat} {f : Nat → Value} (h : ArrAt w g n f) (hg : g < w.heap.size) (o : Obj) : ArrAt (w.alloc o) g n f :=
  fun i hi => ⟨by rw [World.cell?_alloc_lt _ _ _ hg]; exact (h i hi).1, by rw [World.frozen?_alloc_old _ _ _ (by simp; omega)]; exact (h i hi).2⟩
theorem ArrAt.lt {w : World} {g n : Nat} {f : Nat → Value} (h : ArrAt w g n f) (hn : 0 < n) : g < w.heap.size := World.block_lt_of_cell? _ _ (h 0 hn).1
theorem ArrAt.grown {w w' : World} {g n : Nat} {f : Nat → Value} {row : Option Nat} (h : ArrAt w g n f) (hl : g < w.heap.size) (hg : w.grownBy w' row) (hne : ∀ k, row = some k → k ≠ g) : ArrAt w' g n f := fun i hi => by
  have hb : w'.heap[(⟨g, i, none⟩ : Addr).block]? = w.heap[(⟨g, i, none⟩ : Addr).block]? := hg.block g hl (fun e => hne g e.symm rfl)
  rw [World.cell?_of_block hb, World.frozen?_of_block hb]; exact h i hi
theorem t111_info : Tryz.prog.info? 116 = some Tryz.t116 := by kernel_rfl
theorem u23 : Tryz.prog.underlying 25 = some (.slice 116) := by kernel_rfl
theorem u22' : Tryz.prog.underlying 24 = some (.slice 116) := by kernel_rfl
theorem t111_zero : Tryz.t116.zero = some (.int .u64 0) := by kernel_rfl
theorem t111_size : Tryz.t116.size = 1 := by kernel_rfl
theorem t111_bytes : Tryz.t116.bytes = 8 := by kernel_rfl
theorem made_limbs {n i : Nat} (hi : i < n) : (madeCells #[Value.int .u64 0] n).toList[i]? = some (.int .u64 0) := by
  simp [madeCells, hi, Nat.mod_one]
theorem limb_zero (i : Nat) : limb 0 i = 0 := by unfold limb; simp
theorem elem_of_row {w : World} {base : Nat} {e : TypeId} {size : Nat} {g n cap : Nat} {xs : List Value} (h : w.ownsRow base e size (.slice (some ⟨g, 0, none⟩) n cap) n xs) : Elem w g e := by
  rcases h.2 with ⟨h, _⟩ | ⟨g', cap', cur, h1, h2, h3, _⟩
  · cases h
  · injection h1 with h1 _ _
    injection h1 with h1
    injection h1 with h1 _ _
    subst h1
    exact ⟨cur, (0, 0), h3⟩
/-- A row of its own that holds limbs. -/
theorem ArrAt.limbs {w : World} {g n k cap : Nat} (h : ArrAt w g k fun i => .int .u64 ((limb n i : Nat) : Int)) (hk : 0 < k) (hc : k ≤ cap) (h9 : k ≤ 1000000000 ∧ cap ≤ 9223372036854775807) (hE : Elem w g 116) : LimbsAt w (.slice (some ⟨g, 0, none⟩) k cap) n k :=
  .inr ⟨⟨g, 0, none⟩, cap, rfl, hk, hc, h9, hE, fun i hi => by rw [Addr.add_lit, Nat.zero_add]; exact (h i hi).1⟩
end Go.Num
