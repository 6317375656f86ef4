/-
  The two sides of a board: plain laws.
  Conditions: places below 9.
-/
import Derived.Test.YtjcmalmcijpnnaaDoorChkL
namespace Go.Eng

/-- There is a walk of k edges from place 0 to place i. -/
def Wk (A : Nat → Nat → Prop) : Nat → Nat → Prop
  | 0, i => i = 0
  | k + 1, i => ∃ a, Wk A k a ∧ A a i

/-! ### Short walks -/
section
open Classical
noncomputable def grow (A : Nat → Nat → Prop) (S : Nat → Bool) : Nat → Bool := fun i => S i || decide (∃ a, S a = true ∧ A a i)
noncomputable def layer (A : Nat → Nat → Prop) : Nat → Nat → Bool
  | 0 => fun i => i == 0
  | k + 1 => grow A (layer A k)
theorem grow_le {A : Nat → Nat → Prop} {S : Nat → Bool} {i : Nat} (h : S i = true) : grow A S i = true := by simp [grow, h]
theorem layer_walk {A : Nat → Nat → Prop} : ∀ {k i : Nat}, layer A k i = true → ∃ j, j ≤ k ∧ Wk A j i
  | 0, i, h => ⟨0, Nat.le_refl _, by have : i = 0 := (by simpa [layer] using h); exact this⟩
  | k + 1, i, h => by
    simp only [layer, grow, Bool.or_eq_true, decide_eq_true_eq] at h
    rcases h with h | ⟨a, ha, hA⟩
    · obtain ⟨j, h1, h2⟩ := layer_walk h
      exact ⟨j, by omega, h2⟩
    · obtain ⟨j, h1, h2⟩ := layer_walk ha
      exact ⟨j + 1, by omega, a, h2, hA⟩
theorem layer_lt {A : Nat → Nat → Prop} {n : Nat} (h0 : 0 < n) (hA : ∀ a b, A a b → b < n) : ∀ {k i : Nat}, layer A k i = true → i < n
  | 0, i, h => by simp [layer] at h; omega
  | k + 1, i, h => by
    simp only [layer, grow, Bool.or_eq_true, decide_eq_true_eq] at h
    rcases h with h | ⟨a, _, h⟩
    · exact layer_lt h0 hA h
    · exact hA _ _ h
theorem layer_grow {A : Nat → Nat → Prop} {n : Nat} (h0 : 0 < n) (hA : ∀ a b, A a b → b < n) : ∀ k, (∀ i, layer A (k + 1) i = true → layer A k i = true) ∨ k + 1 ≤ cnt (layer A k) n
  | 0 => by
    right
    have := cnt_lt (S := fun _ => false) (T := layer A 0) (n := n) (fun _ q => by cases q) h0 rfl (by simp [layer])
    show 1 ≤ _
    omega
  | k + 1 => by
    rcases layer_grow h0 hA k with q | q
    · left
      have e : layer A (k + 1) = layer A k := by
        funext i
        cases hi : layer A k i with
        | true => exact grow_le hi
        | false => cases hj : layer A (k + 1) i with
          | false => rfl
          | true => have := q i hj; rw [hi] at this; cases this
      intro i hi
      have : layer A (k + 2) = grow A (layer A (k + 1)) := rfl
      rw [this, e] at hi
      exact hi
    · by_cases hx : ∃ i, layer A (k + 1) i = true ∧ layer A k i = false
      · right
        obtain ⟨i, h1, h2⟩ := hx
        have := cnt_lt (n := n) (S := layer A k) (T := layer A (k + 1)) (fun i hi => grow_le hi) (layer_lt h0 hA h1) h2 h1
        omega
      · left
        have e : layer A (k + 1) = layer A k := by
          funext i
          cases hi : layer A k i with
          | true => exact grow_le hi
          | false => cases hj : layer A (k + 1) i with
            | false => rfl
            | true => exact absurd ⟨i, hj, hi⟩ hx
        intro i hi
        have : layer A (k + 2) = grow A (layer A (k + 1)) := rfl
        rw [this, e] at hi
        exact hi
theorem cnt_full {S : Nat → Bool} {n : Nat} (h : n ≤ cnt S n) {i : Nat} (hi : i < n) : S i = true := by
  cases hs : S i with
  | true => rfl
  | false =>
    have := cnt_lt (S := S) (T := fun _ => true) (n := n) (fun _ _ => rfl) hi hs rfl
    have := cnt_le (fun _ => true) n
    omega
/-- Each connected place has a walk of fewer edges than places. -/
theorem short_walk {A : Nat → Nat → Prop} {n : Nat} (h0 : 0 < n) (hA : ∀ a b, A a b → b < n) {i : Nat} (hi : i < n) (r : Rch A 0 i) : ∃ k, k ≤ n - 1 ∧ Wk A k i := by
  refine layer_walk (A := A) ?_
  rcases layer_grow h0 hA (n - 1) with q | q
  · refine r.closed (S := fun i => layer A (n - 1) i = true) ?_ ?_
    · have : ∀ k, layer A k 0 = true := fun k => by
        induction k with
        | zero => simp [layer]
        | succ k ih => exact grow_le ih
      exact this _
    · intro a b hab ha
      refine q b ?_
      show grow A (layer A (n - 1)) b = true
      simp only [grow, Bool.or_eq_true, decide_eq_true_eq]
      exact .inr ⟨a, ha, hab⟩
  · exact cnt_full (by omega) hi
end

/-- Some place has walks of both kinds. -/
def Odd2 (A : Nat → Nat → Prop) : Prop := ∃ i k l, k % 2 = 0 ∧ l % 2 = 1 ∧ Wk A k i ∧ Wk A l i
/-- .. and then short ones. -/
theorem odd_short {A : Nat → Nat → Prop} {n : Nat} (h0 : 0 < n) (hA : ∀ a b, A a b → a < n ∧ b < n) (hc : ∀ i, i < n → Rch A 0 i) (h : Odd2 A) : ∃ i k l, k ≤ n ∧ l ≤ n ∧ k % 2 = 0 ∧ l % 2 = 1 ∧ Wk A k i ∧ Wk A l i := by
  have hs : ∀ i, i < n → ∃ k, k ≤ n - 1 ∧ Wk A k i := fun i hi => short_walk h0 (fun a b q => (hA a b q).2) hi (hc i hi)
  by_cases hx : ∃ a b k l, A a b ∧ k ≤ n - 1 ∧ l ≤ n - 1 ∧ k % 2 = l % 2 ∧ Wk A k a ∧ Wk A l b
  · obtain ⟨a, b, k, l, hab, hk, hl, hp, wa, wb⟩ := hx
    by_cases hl2 : l % 2 = 0
    · exact ⟨b, l, k + 1, by omega, by omega, hl2, by omega, wb, a, wa, hab⟩
    · exact ⟨b, k + 1, l, by omega, by omega, by omega, by omega, ⟨a, wa, hab⟩, wb⟩
  · exfalso
    have key : ∀ k i, Wk A k i → i < n → ∀ l, l ≤ n - 1 → Wk A l i → k % 2 = l % 2 := by
      intro k
      induction k with
      | zero =>
        intro i hw _ l hl wl
        have hi : i = 0 := hw
        subst hi
        -- a closed walk of odd length l ≤ n - 1 has an edge between ends of the same kind
        by_cases hl2 : l % 2 = 0
        · omega
        · exfalso
          match l, hl, wl, hl2 with
          | m + 1, hl, ⟨a, wa, hab⟩, hl2 => exact hx ⟨a, 0, m, 0, hab, by omega, by omega, by omega, wa, rfl⟩
      | succ k ih =>
        rintro i ⟨a, wa, hab⟩ hi l hl wl
        obtain ⟨ha, _⟩ := hA a i hab
        obtain ⟨m, hm, wm⟩ := hs a ha
        have h1 := ih a wa ha m hm wm
        by_cases hp : m % 2 = l % 2
        · exact absurd ⟨a, i, m, l, hab, hm, hl, hp, wm, wl⟩ hx
        · omega
    obtain ⟨i, k, l, hk, hl, wk, wl⟩ := h
    have hi : i < n := by
      match l, wl, hl with
      | m + 1, ⟨a, _, hab⟩, _ => exact (hA a i hab).2
    obtain ⟨m, hm, wm⟩ := hs i hi
    have h1 := key k i wk hi m hm wm
    have h2 := key l i wl hi m hm wm
    omega

/-! ### The reference's rounds -/
def sEdge (s : Nat × Nat) (q : Nat × Nat) : Nat × Nat :=
  let r1 := if s.1.testBit q.1 then s.2 ||| 2 ^ q.2 else s.2
  let r2 := if s.1.testBit q.2 then r1 ||| 2 ^ q.1 else r1
  let l1 := if r2.testBit q.1 then s.1 ||| 2 ^ q.2 else s.1
  let l2 := if r2.testBit q.2 then l1 ||| 2 ^ q.1 else l1
  (l2, r2)
def sRounds (qs : List (Nat × Nat)) : Nat → Nat × Nat
  | 0 => (1, 0)
  | k + 1 => qs.foldl sEdge (sRounds qs k)
/-- What is in the sets has walks of its kind. -/
def SOk (A : Nat → Nat → Prop) (s : Nat × Nat) : Prop := (∀ i, s.1.testBit i = true → ∃ k, k % 2 = 0 ∧ Wk A k i) ∧ (∀ i, s.2.testBit i = true → ∃ k, k % 2 = 1 ∧ Wk A k i)
def SLe (s t : Nat × Nat) : Prop := (∀ i, s.1.testBit i = true → t.1.testBit i = true) ∧ (∀ i, s.2.testBit i = true → t.2.testBit i = true)
theorem SLe.trans {s t u : Nat × Nat} (h : SLe s t) (k : SLe t u) : SLe s u := ⟨fun i q => k.1 i (h.1 i q), fun i q => k.2 i (h.2 i q)⟩

theorem ifor_bit {b : Bool} {M j i : Nat} : (if b = true then M ||| 2 ^ j else M).testBit i = (M.testBit i || (b && decide (j = i))) := by
  cases b
  · simp
  · simp only [if_true, Bool.true_and]
    rw [Nat.testBit_or, Nat.testBit_two_pow]
theorem sEdge_le (s q : Nat × Nat) : SLe s (sEdge s q) := by
  constructor
  · intro i h
    simp only [sEdge, ifor_bit, h, Bool.true_or]
  · intro i h
    simp only [sEdge, ifor_bit, h, Bool.true_or]
theorem sEdge_ok {qs : List (Nat × Nat)} {s q : Nat × Nat} (hq : q ∈ qs) (h : SOk (Adj qs) s) : SOk (Adj qs) (sEdge s q) := by
  have hadj1 : Adj qs q.1 q.2 := .inl hq
  have hadj2 : Adj qs q.2 q.1 := .inr hq
  have h2 : ∀ i, (sEdge s q).2.testBit i = true → ∃ k, k % 2 = 1 ∧ Wk (Adj qs) k i := by
    intro i hi
    simp only [sEdge, ifor_bit, Bool.or_eq_true, Bool.and_eq_true, decide_eq_true_eq] at hi
    rcases hi with (hi | ⟨hi, rfl⟩) | ⟨hi, rfl⟩
    · exact h.2 i hi
    · obtain ⟨k, hk, wk⟩ := h.1 _ hi
      exact ⟨k + 1, by omega, _, wk, hadj1⟩
    · obtain ⟨k, hk, wk⟩ := h.1 _ hi
      exact ⟨k + 1, by omega, _, wk, hadj2⟩
  refine ⟨?_, h2⟩
  intro i hi
  have hL : (sEdge s q).1 = if (sEdge s q).2.testBit q.2 then (if (sEdge s q).2.testBit q.1 then s.1 ||| 2 ^ q.2 else s.1) ||| 2 ^ q.1 else (if (sEdge s q).2.testBit q.1 then s.1 ||| 2 ^ q.2 else s.1) := rfl
  rw [hL] at hi
  simp only [ifor_bit, Bool.or_eq_true, Bool.and_eq_true, decide_eq_true_eq] at hi
  rcases hi with (hi | ⟨hi, rfl⟩) | ⟨hi, rfl⟩
  · exact h.1 i hi
  · obtain ⟨k, hk, wk⟩ := h2 _ hi
    exact ⟨k + 1, by omega, _, wk, hadj1⟩
  · obtain ⟨k, hk, wk⟩ := h2 _ hi
    exact ⟨k + 1, by omega, _, wk, hadj2⟩
theorem foldl_sle : ∀ (l : List (Nat × Nat)) (s : Nat × Nat), SLe s (l.foldl sEdge s)
  | [], s => ⟨fun _ h => h, fun _ h => h⟩
  | q :: l, s => (sEdge_le s q).trans (foldl_sle l _)
theorem foldl_sok {qs : List (Nat × Nat)} : ∀ (l : List (Nat × Nat)) (s : Nat × Nat), (∀ q ∈ l, q ∈ qs) → SOk (Adj qs) s → SOk (Adj qs) (l.foldl sEdge s)
  | [], _, _, h => h
  | q :: l, s, hl, h => foldl_sok l _ (fun x hx => hl x (by simp [hx])) (sEdge_ok (hl q (by simp)) h)
theorem sRounds_ok (qs : List (Nat × Nat)) : ∀ k, SOk (Adj qs) (sRounds qs k)
  | 0 => ⟨fun i h => ⟨0, rfl, by
      have : i = 0 := by
        rcases Nat.eq_zero_or_pos i with q | q
        · exact q
        · have hb : (1 : Nat).testBit i = false := Nat.testBit_lt_two_pow (Nat.one_lt_two_pow (by omega))
          have h' : (1 : Nat).testBit i = true := h
          rw [hb] at h'; cases h'
      exact this⟩, fun i h => by simp [sRounds] at h⟩
  | k + 1 => foldl_sok _ _ (fun _ h => h) (sRounds_ok qs k)
theorem foldl_edge {l : List (Nat × Nat)} {s : Nat × Nat} {q : Nat × Nat} (hq : q ∈ l) : (s.1.testBit q.1 = true → (l.foldl sEdge s).2.testBit q.2 = true) ∧ (s.1.testBit q.2 = true → (l.foldl sEdge s).2.testBit q.1 = true) ∧ (s.2.testBit q.1 = true → (l.foldl sEdge s).1.testBit q.2 = true) ∧ (s.2.testBit q.2 = true → (l.foldl sEdge s).1.testBit q.1 = true) := by
  induction l generalizing s with
  | nil => cases hq
  | cons p t ih =>
    rcases List.mem_cons.1 hq with rfl | hq
    · have hle := foldl_sle t (sEdge s q)
      rw [List.foldl_cons]
      have hL : (sEdge s q).1 = if (sEdge s q).2.testBit q.2 then (if (sEdge s q).2.testBit q.1 then s.1 ||| 2 ^ q.2 else s.1) ||| 2 ^ q.1 else (if (sEdge s q).2.testBit q.1 then s.1 ||| 2 ^ q.2 else s.1) := rfl
      refine ⟨fun h => hle.2 _ ?_, fun h => hle.2 _ ?_, fun h => hle.1 _ ?_, fun h => hle.1 _ ?_⟩
      · simp [sEdge, ifor_bit, h]
      · simp [sEdge, ifor_bit, h]
      · have := (sEdge_le s q).2 _ h
        rw [hL]; simp only [ifor_bit]; simp [this]
      · have := (sEdge_le s q).2 _ h
        rw [hL]; simp only [ifor_bit]; simp [this]
    · rw [List.foldl_cons]
      obtain ⟨a, b, c, d⟩ := ih (s := sEdge s p) hq
      have hle := sEdge_le s p
      exact ⟨fun h => a (hle.1 _ h), fun h => b (hle.1 _ h), fun h => c (hle.2 _ h), fun h => d (hle.2 _ h)⟩
theorem sRounds_mono (qs : List (Nat × Nat)) (k : Nat) : SLe (sRounds qs k) (sRounds qs (k + 1)) := foldl_sle _ _
/-- Walks that are short enough are met. -/
theorem sRounds_met (qs : List (Nat × Nat)) : ∀ r k i, k ≤ r → Wk (Adj qs) k i → (k % 2 = 0 → (sRounds qs r).1.testBit i = true) ∧ (k % 2 = 1 → (sRounds qs r).2.testBit i = true)
  | 0, k, i, hk, w => by
    have : k = 0 := by omega
    subst this
    have hi : i = 0 := w
    subst hi
    exact ⟨fun _ => by simp [sRounds], fun h => by omega⟩
  | r + 1, k, i, hk, w => by
    rcases Nat.lt_or_ge k (r + 1) with q | q
    · have := sRounds_met qs r k i (by omega) w
      exact ⟨fun h => (sRounds_mono qs r).1 _ (this.1 h), fun h => (sRounds_mono qs r).2 _ (this.2 h)⟩
    · have hk' : k = r + 1 := by omega
      subst hk'
      obtain ⟨a, wa, hab⟩ := w
      obtain ⟨h1, h2⟩ := sRounds_met qs r r a (Nat.le_refl _) wa
      rcases hab with hq | hq
      · obtain ⟨e1, e2, e3, e4⟩ := foldl_edge (s := sRounds qs r) hq
        exact ⟨fun h => e3 (h2 (by omega)), fun h => e1 (h1 (by omega))⟩
      · obtain ⟨e1, e2, e3, e4⟩ := foldl_edge (s := sRounds qs r) hq
        exact ⟨fun h => e4 (h2 (by omega)), fun h => e2 (h1 (by omega))⟩

/-- What the sides are: a set, or none. -/
def SidesIs (A : Nat → Nat → Prop) (l : Nat) (ok : Bool) : Prop := (ok = true ∧ ¬ Odd2 A ∧ ∀ i, l.testBit i = true ↔ ∃ k, k % 2 = 0 ∧ Wk A k i) ∨ (ok = false ∧ Odd2 A ∧ l = 0)
theorem SidesIs.unique {A : Nat → Nat → Prop} {l m : Nat} {b c : Bool} (h : SidesIs A l b) (k : SidesIs A m c) : l = m ∧ b = c := by
  rcases h with ⟨rfl, h1, h2⟩ | ⟨rfl, h1, rfl⟩ <;> rcases k with ⟨rfl, k1, k2⟩ | ⟨rfl, k1, rfl⟩
  · refine ⟨Nat.eq_of_testBit_eq fun i => ?_, rfl⟩
    have := (h2 i).trans (k2 i).symm
    cases ha : l.testBit i <;> cases hb : m.testBit i <;> simp_all
  · exact absurd k1 h1
  · exact absurd h1 k1
  · exact ⟨rfl, rfl⟩
theorem and_zero {a b : Nat} : a &&& b ≠ 0 ↔ ∃ i, a.testBit i = true ∧ b.testBit i = true := by
  constructor
  · intro h
    by_cases hx : ∃ i, a.testBit i = true ∧ b.testBit i = true
    · exact hx
    · exfalso
      apply h
      apply Nat.eq_of_testBit_eq
      intro i
      rw [Nat.testBit_and, Nat.zero_testBit]
      cases ha : a.testBit i <;> cases hb : b.testBit i <;> simp
      exact hx ⟨i, ha, hb⟩
  · rintro ⟨i, ha, hb⟩ h
    have : (a &&& b).testBit i = true := by rw [Nat.testBit_and, ha, hb]; rfl
    rw [h, Nat.zero_testBit] at this
    cases this

/-- The reference's answer. -/
theorem sRounds_law {qs : List (Nat × Nat)} {n : Nat} (h0 : 0 < n) (hq : ∀ q ∈ qs, q.1 < n ∧ q.2 < n) (hc : ∀ i, i < n → Rch (Adj qs) 0 i) (L R : Nat) (hLR : sRounds qs n = (L, R)) :
    SidesIs (Adj qs) (if L &&& R = 0 then L else 0) (decide (L &&& R = 0)) := by
  have hA : ∀ a b, Adj qs a b → a < n ∧ b < n := by
    rintro a b (h | h)
    · exact hq _ h
    · exact (hq _ h).symm
  have hok := sRounds_ok qs n
  have hmet := sRounds_met qs n
  rw [hLR] at hok hmet
  have hiff : L &&& R ≠ 0 ↔ Odd2 (Adj qs) := by
    rw [and_zero]
    constructor
    · rintro ⟨i, ha, hb⟩
      obtain ⟨k, hk, wk⟩ := hok.1 i ha
      obtain ⟨l, hl, wl⟩ := hok.2 i hb
      exact ⟨i, k, l, hk, hl, wk, wl⟩
    · intro h
      obtain ⟨i, k, l, hk, hl, pk, pl, wk, wl⟩ := odd_short h0 hA hc h
      exact ⟨i, (hmet k i hk wk).1 pk, (hmet l i hl wl).2 pl⟩
  by_cases h : L &&& R = 0
  · rw [if_pos h]
    have hno : ¬ Odd2 (Adj qs) := fun q => hiff.2 q h
    refine .inl ⟨by simp [h], hno, fun i => ⟨hok.1 i, ?_⟩⟩
    rintro ⟨k, hk, wk⟩
    have hi : i < n := by
      match k, wk with
      | 0, w => have : i = 0 := w; omega
      | m + 1, ⟨a, _, hab⟩ => exact (hA a i hab).2
    obtain ⟨m, hm, wm⟩ := short_walk h0 (fun a b q => (hA a b q).2) hi (hc i hi)
    by_cases hp : m % 2 = 0
    · exact (hmet m i (by omega) wm).1 hp
    · exact absurd ⟨i, k, m, hk, by omega, wk, wm⟩ hno
  · rw [if_neg h]
    exact .inr ⟨by simp [h], hiff.1 h, rfl⟩

/-! ### The program's passes -/
def pZero (nx : Nat → Nat) (s : Nat × Nat) (i : Nat) : Nat × Nat := if s.1.testBit i = true then (s.1, s.2 ||| nx i) else s
def pOne (nx : Nat → Nat) (s : Nat × Nat) (i : Nat) : Nat × Nat := if s.2.testBit i = true then (s.1 ||| nx i, s.2) else s
def pPass (nx : Nat → Nat) (s : Nat × Nat) : Nat → Nat × Nat
  | 0 => s
  | i + 1 => pOne nx (pZero nx (pPass nx s i) i) i
def PLe (s t : Nat × Nat) : Prop := s.1 ≤ t.1 ∧ s.2 ≤ t.2
theorem pZero_le (nx : Nat → Nat) (s : Nat × Nat) (i : Nat) : PLe s (pZero nx s i) := by
  unfold pZero; split
  · exact ⟨Nat.le_refl _, Nat.left_le_or⟩
  · exact ⟨Nat.le_refl _, Nat.le_refl _⟩
theorem pOne_le (nx : Nat → Nat) (s : Nat × Nat) (i : Nat) : PLe s (pOne nx s i) := by
  unfold pOne; split
  · exact ⟨Nat.left_le_or, Nat.le_refl _⟩
  · exact ⟨Nat.le_refl _, Nat.le_refl _⟩
theorem PLe.trans {s t u : Nat × Nat} (h : PLe s t) (k : PLe t u) : PLe s u := ⟨Nat.le_trans h.1 k.1, Nat.le_trans h.2 k.2⟩
theorem pPass_le (nx : Nat → Nat) (s : Nat × Nat) : ∀ k, PLe s (pPass nx s k)
  | 0 => ⟨Nat.le_refl _, Nat.le_refl _⟩
  | k + 1 => ((pPass_le nx s k).trans (pZero_le _ _ _)).trans (pOne_le _ _ _)
theorem PLe.anti {s t : Nat × Nat} (h : PLe s t) (k : PLe t s) : s = t := Prod.ext (Nat.le_antisymm h.1 k.1) (Nat.le_antisymm h.2 k.2)
theorem pPass_fix {nx : Nat → Nat} {s : Nat × Nat} : ∀ {n : Nat}, pPass nx s n = s → ∀ i, i < n → pZero nx s i = s ∧ pOne nx s i = s
  | n + 1, h, i, hi => by
    have e : pOne nx (pZero nx (pPass nx s n) n) n = s := h
    have h1 : pPass nx s n = s := PLe.anti (by
      have := (pZero_le nx (pPass nx s n) n).trans (pOne_le nx _ n)
      rw [e] at this; exact this) (pPass_le nx s n)
    rcases Nat.lt_or_ge i n with q | q
    · exact pPass_fix h1 i q
    · have : i = n := by omega
      subst this
      rw [h1] at e
      have h2 : pZero nx s i = s := PLe.anti (by
        have := pOne_le nx (pZero nx s i) i
        rw [e] at this; exact this) (pZero_le nx s i)
      rw [h2] at e
      exact ⟨h2, e⟩
structure POk (A : Nat → Nat → Prop) (s : Nat × Nat) : Prop where
  ok : SOk A s
  zero : s.1.testBit 0 = true
  small : s.1 < 512 ∧ s.2 < 512
theorem POk.start (A : Nat → Nat → Prop) : POk A (1, 0) := by
  refine ⟨⟨fun i h => ⟨0, rfl, ?_⟩, fun i h => by simp at h⟩, rfl, by decide⟩
  have : i = 0 := by
    rcases Nat.eq_zero_or_pos i with q | q
    · exact q
    · have hb : (1 : Nat).testBit i = false := Nat.testBit_lt_two_pow (Nat.one_lt_two_pow (by omega))
      have h' : (1 : Nat).testBit i = true := h
      rw [hb] at h'; cases h'
  exact this
theorem POk.zero_ {A : Nat → Nat → Prop} {nx : Nat → Nat} (hnx : ∀ i j, (nx i).testBit j = true → A i j) (h9 : ∀ i, nx i < 512) {s : Nat × Nat} (h : POk A s) (i : Nat) : POk A (pZero nx s i) := by
  unfold pZero; split
  · rename_i hb
    refine ⟨⟨h.ok.1, fun j hj => ?_⟩, h.zero, h.small.1, or_lt9 h.small.2 (h9 i)⟩
    rw [Nat.testBit_or, Bool.or_eq_true] at hj
    rcases hj with hj | hj
    · exact h.ok.2 j hj
    · obtain ⟨k, hk, wk⟩ := h.ok.1 i hb
      exact ⟨k + 1, by omega, i, wk, hnx i j hj⟩
  · exact h
theorem POk.one_ {A : Nat → Nat → Prop} {nx : Nat → Nat} (hnx : ∀ i j, (nx i).testBit j = true → A i j) (h9 : ∀ i, nx i < 512) {s : Nat × Nat} (h : POk A s) (i : Nat) : POk A (pOne nx s i) := by
  unfold pOne; split
  · rename_i hb
    refine ⟨⟨fun j hj => ?_, h.ok.2⟩, by rw [Nat.testBit_or, h.zero]; rfl, or_lt9 h.small.1 (h9 i), h.small.2⟩
    rw [Nat.testBit_or, Bool.or_eq_true] at hj
    rcases hj with hj | hj
    · exact h.ok.1 j hj
    · obtain ⟨k, hk, wk⟩ := h.ok.2 i hb
      exact ⟨k + 1, by omega, i, wk, hnx i j hj⟩
  · exact h
theorem POk.pass {A : Nat → Nat → Prop} {nx : Nat → Nat} (hnx : ∀ i j, (nx i).testBit j = true → A i j) (h9 : ∀ i, nx i < 512) {s : Nat × Nat} (h : POk A s) : ∀ k, POk A (pPass nx s k)
  | 0 => h
  | k + 1 => ((h.pass hnx h9 k).zero_ hnx h9 k).one_ hnx h9 k
/-- The program's answer. -/
theorem pPass_law {A : Nat → Nat → Prop} {nx : Nat → Nat} {n : Nat} (hnx : ∀ i j, (nx i).testBit j = true ↔ A i j) (hA : ∀ a b, A a b → a < n ∧ b < n) {s : Nat × Nat} (h : POk A s) (hfix : pPass nx s n = s) :
    SidesIs A (if s.1 &&& s.2 = 0 then s.1 else 0) (decide (s.1 &&& s.2 = 0)) := by
  have hf := pPass_fix hfix
  have hcl : ∀ k i, Wk A k i → (k % 2 = 0 → s.1.testBit i = true) ∧ (k % 2 = 1 → s.2.testBit i = true) := by
    intro k
    induction k with
    | zero => intro i w; have : i = 0 := w; subst this; exact ⟨fun _ => h.zero, fun q => by omega⟩
    | succ k ih =>
      rintro i ⟨a, wa, hab⟩
      obtain ⟨h1, h2⟩ := ih a wa
      obtain ⟨e1, e2⟩ := hf a (hA a i hab).1
      have hb := (hnx a i).2 hab
      constructor
      · intro q
        have ha := h2 (by omega)
        unfold pOne at e2
        rw [if_pos ha] at e2
        rw [← e2]
        simp [Nat.testBit_or, hb]
      · intro q
        have ha := h1 (by omega)
        unfold pZero at e1
        rw [if_pos ha] at e1
        rw [← e1]
        simp [Nat.testBit_or, hb]
  have hiff : s.1 &&& s.2 ≠ 0 ↔ Odd2 A := by
    rw [and_zero]
    constructor
    · rintro ⟨i, ha, hb⟩
      obtain ⟨k, hk, wk⟩ := h.ok.1 i ha
      obtain ⟨l, hl, wl⟩ := h.ok.2 i hb
      exact ⟨i, k, l, hk, hl, wk, wl⟩
    · rintro ⟨i, k, l, hk, hl, wk, wl⟩
      exact ⟨i, (hcl k i wk).1 hk, (hcl l i wl).2 hl⟩
  by_cases hz : s.1 &&& s.2 = 0
  · rw [if_pos hz]
    exact .inl ⟨by simp [hz], fun q => hiff.2 q hz, fun i => ⟨h.ok.1 i, fun ⟨k, hk, wk⟩ => (hcl k i wk).1 hk⟩⟩
  · rw [if_neg hz]
    exact .inr ⟨by simp [hz], hiff.1 hz, rfl⟩
end Go.Eng
