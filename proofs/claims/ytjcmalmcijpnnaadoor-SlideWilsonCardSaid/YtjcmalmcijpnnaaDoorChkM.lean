/-
  Plain laws of places that are connected: by rounds over edges, and by bits.
  Conditions: places below 9.
-/
import Derived.Test.YtjcmalmcijpnnaaDoorChkB
namespace Go.Eng

inductive Rch (A : Nat → Nat → Prop) (s : Nat) : Nat → Prop
  | start : Rch A s s
  | step {a b : Nat} : Rch A s a → A a b → Rch A s b

theorem Rch.mono {A B : Nat → Nat → Prop} (h : ∀ a b, A a b → B a b) {s i : Nat} (r : Rch A s i) : Rch B s i := by
  induction r with
  | start => exact .start
  | step _ e ih => exact .step ih (h _ _ e)

theorem Rch.closed {A : Nat → Nat → Prop} {s i : Nat} (r : Rch A s i) {S : Nat → Prop} (hs : S s) (hc : ∀ a b, A a b → S a → S b) : S i := by
  induction r with
  | start => exact hs
  | step _ e ih => exact hc _ _ e ih

def Adj (qs : List (Nat × Nat)) (a b : Nat) : Prop := (a, b) ∈ qs ∨ (b, a) ∈ qs
def AdjBut (qs : List (Nat × Nat)) (but : Int) (a b : Nat) : Prop := Adj qs a b ∧ (a : Int) ≠ but ∧ (b : Int) ≠ but

/-- An edge of the rounds. -/
def oneEdge (but : Int) (S : Nat → Bool) (q : Nat × Nat) : Nat → Bool :=
  if ((q.1 : Int) ≠ but ∧ (q.2 : Int) ≠ but) ∧ (S q.1 = true ∨ S q.2 = true) then fun i => i == q.1 || i == q.2 || S i else S
def oneRound (qs : List (Nat × Nat)) (but : Int) (S : Nat → Bool) : Nat → Bool := qs.foldl (oneEdge but) S
def rounds (qs : List (Nat × Nat)) (but : Int) (S : Nat → Bool) : Nat → Nat → Bool
  | 0 => S
  | k + 1 => oneRound qs but (rounds qs but S k)

theorem oneEdge_le {but : Int} {S : Nat → Bool} {q : Nat × Nat} {i : Nat} (h : S i = true) : oneEdge but S q i = true := by
  unfold oneEdge; split <;> simp [h]
theorem foldl_le {but : Int} : ∀ {qs : List (Nat × Nat)} {S : Nat → Bool} {i : Nat}, S i = true → qs.foldl (oneEdge but) S i = true
  | [], _, _, h => h
  | q :: l, S, _, h => foldl_le (qs := l) (S := oneEdge but S q) (oneEdge_le h)
theorem rounds_le {qs : List (Nat × Nat)} {but : Int} {S : Nat → Bool} {i : Nat} (h : S i = true) : ∀ k, rounds qs but S k i = true
  | 0 => h
  | k + 1 => foldl_le (rounds_le h k)

theorem oneEdge_sound {qs : List (Nat × Nat)} {but : Int} {s : Nat} {S : Nat → Bool} {q : Nat × Nat} (hq : q ∈ qs) (h : ∀ i, S i = true → Rch (AdjBut qs but) s i) {i : Nat} (hi : oneEdge but S q i = true) : Rch (AdjBut qs but) s i := by
  unfold oneEdge at hi
  split at hi
  · rename_i hc
    obtain ⟨⟨h1, h2⟩, h3⟩ := hc
    simp only [Bool.or_eq_true, beq_iff_eq] at hi
    rcases hi with (rfl | rfl) | hi
    · rcases h3 with h3 | h3
      · exact h _ h3
      · exact .step (h _ h3) ⟨.inr hq, h2, h1⟩
    · rcases h3 with h3 | h3
      · exact .step (h _ h3) ⟨.inl hq, h1, h2⟩
      · exact h _ h3
    · exact h _ hi
  · exact h _ hi
theorem foldl_sound {qs : List (Nat × Nat)} {but : Int} {s : Nat} : ∀ {l : List (Nat × Nat)} {S : Nat → Bool}, (∀ q ∈ l, q ∈ qs) → (∀ i, S i = true → Rch (AdjBut qs but) s i) → ∀ i, l.foldl (oneEdge but) S i = true → Rch (AdjBut qs but) s i
  | [], _, _, h => h
  | q :: l, _, hl, h => foldl_sound (l := l) (fun x hx => hl x (by simp [hx])) fun _ hi => oneEdge_sound (hl q (by simp)) h hi
theorem rounds_sound {qs : List (Nat × Nat)} {but : Int} {s : Nat} {S : Nat → Bool} (h : ∀ i, S i = true → Rch (AdjBut qs but) s i) : ∀ k i, rounds qs but S k i = true → Rch (AdjBut qs but) s i
  | 0 => h
  | k + 1 => foldl_sound (fun _ h => h) (rounds_sound h k)

theorem oneEdge_lt {n : Nat} {but : Int} {S : Nat → Bool} {q : Nat × Nat} (hq : q.1 < n ∧ q.2 < n) (h : ∀ i, S i = true → i < n) {i : Nat} (hi : oneEdge but S q i = true) : i < n := by
  unfold oneEdge at hi
  split at hi
  · simp only [Bool.or_eq_true, beq_iff_eq] at hi
    rcases hi with (rfl | rfl) | hi
    · exact hq.1
    · exact hq.2
    · exact h _ hi
  · exact h _ hi
theorem foldl_lt {n : Nat} {but : Int} : ∀ {l : List (Nat × Nat)} {S : Nat → Bool}, (∀ q ∈ l, q.1 < n ∧ q.2 < n) → (∀ i, S i = true → i < n) → ∀ i, l.foldl (oneEdge but) S i = true → i < n
  | [], _, _, h => h
  | q :: l, _, hl, h => foldl_lt (l := l) (fun x hx => hl x (by simp [hx])) fun _ hi => oneEdge_lt (hl q (by simp)) h hi
theorem rounds_lt {n : Nat} {qs : List (Nat × Nat)} {but : Int} {S : Nat → Bool} (hl : ∀ q ∈ qs, q.1 < n ∧ q.2 < n) (h : ∀ i, S i = true → i < n) : ∀ k i, rounds qs but S k i = true → i < n
  | 0 => h
  | k + 1 => foldl_lt hl (rounds_lt hl h k)

theorem foldl_closed {but : Int} : ∀ {l : List (Nat × Nat)} {S : Nat → Bool}, (∀ i, l.foldl (oneEdge but) S i = true → S i = true) → ∀ q ∈ l, ((q.1 : Int) ≠ but ∧ (q.2 : Int) ≠ but) → (S q.1 = true ∨ S q.2 = true) → S q.1 = true ∧ S q.2 = true
  | p :: l, S, h, q, hq, h1, h2 => by
    have e : oneEdge but S p = S := by
      funext i
      cases hs : S i with
      | true => exact oneEdge_le hs
      | false =>
        cases ho : oneEdge but S p i with
        | false => rfl
        | true =>
          have := h i (foldl_le (qs := l) (S := oneEdge but S p) ho)
          rw [hs] at this; cases this
    rcases List.mem_cons.1 hq with rfl | hq
    · unfold oneEdge at e
      rw [if_pos ⟨h1, h2⟩] at e
      exact ⟨by rw [← congrFun e q.1]; simp, by rw [← congrFun e q.2]; simp⟩
    · refine foldl_closed (l := l) ?_ q hq h1 h2
      intro i hi
      refine h i ?_
      rw [List.foldl_cons, e]; exact hi

def cnt (S : Nat → Bool) (n : Nat) : Nat := (List.range n).countP S
theorem cnt_le (S : Nat → Bool) (n : Nat) : cnt S n ≤ n := by
  have := List.countP_le_length (p := S) (l := List.range n)
  rw [List.length_range] at this; exact this
theorem cnt_mono {S T : Nat → Bool} (n : Nat) (h : ∀ i, S i = true → T i = true) : cnt S n ≤ cnt T n := List.countP_mono_left fun i _ hi => h i hi
theorem cnt_succ (S : Nat → Bool) (n : Nat) : cnt S (n + 1) = cnt S n + (if S n = true then 1 else 0) := by
  unfold cnt
  rw [List.range_succ, List.countP_append, List.countP_singleton]
theorem cnt_lt {S T : Nat → Bool} : ∀ {n : Nat}, (∀ i, S i = true → T i = true) → ∀ {i : Nat}, i < n → S i = false → T i = true → cnt S n < cnt T n
  | n + 1, h, i, hi, h1, h2 => by
    rw [cnt_succ, cnt_succ]
    rcases Nat.lt_or_ge i n with q | q
    · have := cnt_lt h q h1 h2
      have h3 : (if S n = true then 1 else 0) ≤ (if T n = true then 1 else 0) := by
        cases hs : S n with
        | true => rw [h n hs]; exact Nat.le_refl _
        | false => simp
      omega
    · have : i = n := by omega
      subst this
      have := cnt_mono i h
      simp [h1, h2]
      omega

theorem rounds_grow {n : Nat} {qs : List (Nat × Nat)} {but : Int} {S : Nat → Bool} {s : Nat} (hs : s < n) (h0 : S s = true) (hl : ∀ q ∈ qs, q.1 < n ∧ q.2 < n) (h : ∀ i, S i = true → i < n) :
    ∀ k, (∀ i, rounds qs but S (k + 1) i = true → rounds qs but S k i = true) ∨ k + 1 ≤ cnt (rounds qs but S k) n
  | 0 => by
    right
    have := cnt_lt (S := fun _ => false) (T := S) (n := n) (fun _ q => by cases q) hs rfl h0
    show 1 ≤ cnt S n
    omega
  | k + 1 => by
    rcases rounds_grow hs h0 hl h k with q | q
    · left
      have e : rounds qs but S (k + 1) = rounds qs but S k := by
        funext i
        cases hi : rounds qs but S k i with
        | true => exact foldl_le hi
        | false => cases hj : rounds qs but S (k + 1) i with
          | false => rfl
          | true => have := q i hj; rw [hi] at this; cases this
      intro i hi
      show rounds qs but S (k + 1) i = true
      have : rounds qs but S (k + 2) = oneRound qs but (rounds qs but S (k + 1)) := rfl
      rw [this, e] at hi
      exact hi
    · by_cases hx : ∃ i, rounds qs but S (k + 1) i = true ∧ rounds qs but S k i = false
      · right
        obtain ⟨i, h1, h2⟩ := hx
        have := cnt_lt (n := n) (S := rounds qs but S k) (T := rounds qs but S (k + 1)) (fun i hi => foldl_le hi) (rounds_lt hl h _ _ h1) h2 h1
        omega
      · left
        have e : rounds qs but S (k + 1) = rounds qs but S k := by
          funext i
          cases hi : rounds qs but S k i with
          | true => exact foldl_le hi
          | false => cases hj : rounds qs but S (k + 1) i with
            | false => rfl
            | true => exact absurd ⟨i, hj, hi⟩ hx
        intro i hi
        have : rounds qs but S (k + 2) = oneRound qs but (rounds qs but S (k + 1)) := rfl
        rw [this, e] at hi
        exact hi

/-- After n rounds just the places that are connected with the first one are seen. -/
theorem rounds_law {n : Nat} {qs : List (Nat × Nat)} {but : Int} {s : Nat} (hs : s < n) (hl : ∀ q ∈ qs, q.1 < n ∧ q.2 < n) (i : Nat) :
    rounds qs but (fun j => j == s) n i = true ↔ Rch (AdjBut qs but) s i := by
  have h : ∀ i, (fun j => j == s) i = true → i < n := fun i hi => by simp at hi; omega
  refine ⟨rounds_sound (fun i hi => by simp at hi; subst hi; exact .start) n i, fun r => ?_⟩
  have hfix : ∀ i, rounds qs but (fun j => j == s) (n + 1) i = true → rounds qs but (fun j => j == s) n i = true := by
    rcases rounds_grow (but := but) hs (by simp) hl h n with q | q
    · exact q
    · have := cnt_le (rounds qs but (fun j => j == s) n) n
      omega
  refine r.closed (S := fun i => rounds qs but (fun j => j == s) n i = true) (rounds_le (by simp) n) ?_
  rintro a b ⟨hab, ha, hb⟩ hS
  have hc := foldl_closed (l := qs) (S := rounds qs but (fun j => j == s) n) hfix
  rcases hab with q | q
  · exact (hc _ q ⟨ha, hb⟩ (.inl hS)).2
  · exact (hc _ q ⟨hb, ha⟩ (.inr hS)).1

/-! ### By bits -/
def oneBit (next : Nat → Nat) (set : Nat) (own i : Nat) : Nat := if own.testBit i = true then own ||| (next i &&& set) else own
def onePass (next : Nat → Nat) (set : Nat) (own : Nat) : Nat → Nat
  | 0 => own
  | k + 1 => oneBit next set (onePass next set own k) k
def BitAdj (next : Nat → Nat) (set : Nat) (a b : Nat) : Prop := (next a).testBit b = true ∧ set.testBit b = true

theorem oneBit_le {next : Nat → Nat} {set own i : Nat} : own ≤ oneBit next set own i := by
  unfold oneBit; split
  · exact Nat.left_le_or
  · exact Nat.le_refl _
theorem onePass_le {next : Nat → Nat} {set own : Nat} : ∀ k, own ≤ onePass next set own k
  | 0 => Nat.le_refl _
  | k + 1 => Nat.le_trans (onePass_le k) oneBit_le
theorem oneBit_bit {next : Nat → Nat} {set own i j : Nat} (h : own.testBit j = true) : (oneBit next set own i).testBit j = true := by
  unfold oneBit; split
  · rw [Nat.testBit_or, h]; rfl
  · exact h
theorem oneBit_sound {next : Nat → Nat} {set own i s : Nat} (h : ∀ j, own.testBit j = true → Rch (BitAdj next set) s j) {j : Nat} (hj : (oneBit next set own i).testBit j = true) : Rch (BitAdj next set) s j := by
  unfold oneBit at hj
  split at hj
  · rename_i hi
    rw [Nat.testBit_or, Bool.or_eq_true, Nat.testBit_and, Bool.and_eq_true] at hj
    rcases hj with hj | hj
    · exact h j hj
    · exact .step (h i hi) hj
  · exact h j hj
theorem onePass_sound {next : Nat → Nat} {set own s : Nat} (h : ∀ j, own.testBit j = true → Rch (BitAdj next set) s j) : ∀ k j, (onePass next set own k).testBit j = true → Rch (BitAdj next set) s j
  | 0 => h
  | k + 1 => fun _ hj => oneBit_sound (onePass_sound h k) hj
theorem onePass_fix {next : Nat → Nat} {set own : Nat} : ∀ {n : Nat}, onePass next set own n = own → ∀ i, i < n → oneBit next set own i = own
  | n + 1, h, i, hi => by
    have h1 : onePass next set own n = own := Nat.le_antisymm (by
      have h2 : onePass next set own n ≤ onePass next set own (n + 1) := oneBit_le
      omega) (onePass_le n)
    rcases Nat.lt_or_ge i n with q | q
    · exact onePass_fix h1 i q
    · have : i = n := by omega
      subst this
      have h3 : oneBit next set (onePass next set own i) i = own := h
      rw [h1] at h3; exact h3
/-- A set that a pass leaves alone is what is connected with its first place. -/
theorem bits_law {next : Nat → Nat} {set own s n : Nat} (hfix : onePass next set own n = own) (hlt : ∀ i, own.testBit i = true → i < n) (hs : own.testBit s = true) (h : ∀ j, own.testBit j = true → Rch (BitAdj next set) s j) (j : Nat) :
    own.testBit j = true ↔ Rch (BitAdj next set) s j := by
  refine ⟨h j, fun r => r.closed (S := fun j => own.testBit j = true) hs ?_⟩
  rintro a b ⟨h1, h2⟩ ha
  have := onePass_fix hfix a (hlt a ha)
  unfold oneBit at this
  rw [if_pos ha] at this
  show own.testBit b = true
  rw [← this, Nat.testBit_or, Nat.testBit_and, h1, h2]
  simp
theorem and_lt9 {a b : Nat} (hb : b < 512) : a &&& b < 512 := Nat.lt_of_le_of_lt Nat.and_le_right hb
theorem or_lt9 {a b : Nat} (ha : a < 512) (hb : b < 512) : a ||| b < 512 := by
  have := @Nat.or_lt_two_pow a b 9 ha hb
  exact this
end Go.Eng
