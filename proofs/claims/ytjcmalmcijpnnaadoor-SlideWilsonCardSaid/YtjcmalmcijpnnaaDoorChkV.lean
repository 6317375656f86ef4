/-
  The edges of a table of bits, in order: plain laws.
  Conditions: none.
-/
import Derived.Test.YtjcmalmcijpnnaaDoorChkN
namespace Go.Eng
open Go.RowKit

def partL (In : Nat → Bool) (a b : Nat) : List (Nat × Nat) := ((List.range b).filter fun b' => decide (a < b') && In (a * 9 + b')).map fun b' => (a, b')
def rowsL (In : Nat → Bool) (N a : Nat) : List (Nat × Nat) := (List.range a).flatMap fun a' => partL In a' N

theorem partL_start (In : Nat → Bool) (a : Nat) : partL In a (a + 1) = [] := by
  unfold partL
  rw [List.map_eq_nil_iff, List.filter_eq_nil_iff]
  intro b hb
  rw [List.mem_range] at hb
  have : ¬ a < b := by omega
  simp [this]
theorem partL_yes {In : Nat → Bool} {a b : Nat} (h : a < b) (hi : In (a * 9 + b) = true) : partL In a (b + 1) = partL In a b ++ [(a, b)] := by
  unfold partL
  rw [List.range_succ, List.filter_append, List.map_append]
  simp [h, hi]
theorem partL_no {In : Nat → Bool} {a b : Nat} (hi : In (a * 9 + b) = false) : partL In a (b + 1) = partL In a b := by
  unfold partL
  rw [List.range_succ, List.filter_append, List.map_append]
  simp [hi]
theorem rowsL_succ (In : Nat → Bool) (N a : Nat) : rowsL In N (a + 1) = rowsL In N a ++ partL In a N := by
  unfold rowsL
  rw [List.range_succ, List.flatMap_append]
  simp
theorem mem_partL {In : Nat → Bool} {a b : Nat} {q : Nat × Nat} : q ∈ partL In a b ↔ q.1 = a ∧ q.2 < b ∧ a < q.2 ∧ In (a * 9 + q.2) = true := by
  unfold partL
  simp only [List.mem_map, List.mem_filter, List.mem_range, Bool.and_eq_true, decide_eq_true_eq]
  constructor
  · rintro ⟨c, ⟨h1, h2, h3⟩, rfl⟩; exact ⟨rfl, h1, h2, h3⟩
  · rintro ⟨h1, h2, h3, h4⟩; exact ⟨q.2, ⟨h2, h3, h4⟩, Prod.ext h1.symm rfl⟩
theorem mem_rowsL {In : Nat → Bool} {N a : Nat} {q : Nat × Nat} : q ∈ rowsL In N a ↔ q.1 < a ∧ q.2 < N ∧ q.1 < q.2 ∧ In (q.1 * 9 + q.2) = true := by
  unfold rowsL
  simp only [List.mem_flatMap, List.mem_range, mem_partL]
  constructor
  · rintro ⟨c, h0, rfl, h1, h2, h3⟩; exact ⟨h0, h1, h2, h3⟩
  · rintro ⟨h0, h1, h2, h3⟩; exact ⟨q.1, h0, rfl, h1, h2, h3⟩
theorem partL_len (In : Nat → Bool) (a b : Nat) : (partL In a b).length ≤ b := by
  unfold partL
  rw [List.length_map]
  have := List.length_filter_le (fun b' => decide (a < b') && In (a * 9 + b')) (List.range b)
  rw [List.length_range] at this; exact this
theorem rowsL_len (In : Nat → Bool) (N : Nat) : ∀ a, (rowsL In N a).length ≤ a * N
  | 0 => by simp [rowsL]
  | a + 1 => by
    rw [rowsL_succ, List.length_append, Nat.succ_mul]
    have := rowsL_len In N a
    have := partL_len In a N
    omega

/-- One pair stands before another one. -/
def Lex (p q : Nat × Nat) : Prop := p.1 < q.1 ∨ p.1 = q.1 ∧ p.2 < q.2
theorem partL_sorted (In : Nat → Bool) (a b : Nat) : (partL In a b).Pairwise Lex := by
  unfold partL
  rw [List.pairwise_map]
  refine List.Pairwise.filter _ ?_
  exact List.pairwise_lt_range.imp fun h => .inr ⟨rfl, h⟩
theorem rowsL_sorted (In : Nat → Bool) (N : Nat) : ∀ a, (rowsL In N a).Pairwise Lex
  | 0 => by simp [rowsL]
  | a + 1 => by
    rw [rowsL_succ, List.pairwise_append]
    refine ⟨rowsL_sorted In N a, partL_sorted In a N, ?_⟩
    intro p hp q hq
    rw [mem_rowsL] at hp
    rw [mem_partL] at hq
    exact .inl (by omega)

theorem edges_of {N : Nat} {qs : List (Nat × Nat)} (h : qs.Pairwise Lex) (hm : ∀ q ∈ qs, q.1 < q.2 ∧ q.2 < N) : EdgesTo (N : Int) (ints qs) (ints qs).length := by
  intro i hi
  rw [ints_len] at hi
  have e := List.getElem?_eq_getElem hi
  have hq := hm _ (List.getElem_mem hi)
  unfold EdgeOK
  rw [ints_fst, ints_snd, ints_fst, ints_snd]
  have e1 : qs.getD i (0, 0) = qs[i] := by rw [List.getD_eq_getElem?_getD, e]; rfl
  rw [e1]
  refine ⟨by omega, fun h0 => ?_⟩
  have hi' : i - 1 < qs.length := by omega
  have e2 : qs.getD (i - 1) (0, 0) = qs[i - 1] := by rw [List.getD_eq_getElem?_getD, List.getElem?_eq_getElem hi']; rfl
  rw [e2]
  have := List.pairwise_iff_getElem.1 h (i - 1) i hi' hi (by omega)
  rcases this with this | ⟨h1, h2⟩
  · left; omega
  · right; omega
theorem nats_ints (qs : List (Nat × Nat)) : nats (ints qs) = qs := by
  unfold nats ints
  rw [List.map_map]
  conv => rhs; rw [← List.map_id qs]
  apply List.map_congr_left
  intro q _
  rfl

/-- One bit more. -/
def more (In : Nat → Bool) (j : Nat) : Nat → Bool := fun i => i == j || In i
theorem more_cnt {In : Nat → Bool} {j n : Nat} (hj : j < n) (h : In j = false) : cnt In n < cnt (more In j) n :=
  cnt_lt (fun i hi => by simp [more, hi]) hj h (by simp [more])

/-- A place that is not seen, behind one that is: there is no edge between them. -/
theorem no_edge {In : Nat → Bool} {N k : Nat} (hk : k + 1 < N) (h1 : rounds (rowsL In N N) (-1) (fun j => j == 0) N k = true) (h2 : rounds (rowsL In N N) (-1) (fun j => j == 0) N (k + 1) = false) : In (k * 9 + (k + 1)) = false := by
  cases h : In (k * 9 + (k + 1)) with
  | false => rfl
  | true =>
    have hm : ((k, k + 1) : Nat × Nat) ∈ rowsL In N N := mem_rowsL.2 ⟨by show k < N; omega, hk, Nat.lt_succ_self k, h⟩
    have law := rounds_law (n := N) (qs := rowsL In N N) (but := -1) (s := 0) (by omega) (fun q hq => by have := mem_rowsL.1 hq; omega)
    have := (law (k + 1)).2 (.step ((law k).1 h1) ⟨.inl hm, by omega, by omega⟩)
    rw [h2] at this; cases this
theorem not_linked {In : Nat → Bool} {N : Nat} (hN : 2 ≤ N) (h : ¬ IsBoard N (ints (rowsL In N N))) : ∃ k, k < N ∧ rounds (rowsL In N N) (-1) (fun j => j == 0) N k = false := by
  by_cases hx : ∃ k, k < N ∧ rounds (rowsL In N N) (-1) (fun j => j == 0) N k = false
  · exact hx
  · refine absurd ⟨edges_of (rowsL_sorted In N N) (fun q hq => by have := mem_rowsL.1 hq; omega), fun i hi _ => ?_⟩ h
    rw [nats_ints]
    have law := rounds_law (n := N) (qs := rowsL In N N) (but := -1) (s := 0) (by omega) (fun q hq => by have := mem_rowsL.1 hq; omega)
    refine (law i).1 ?_
    cases hh : rounds (rowsL In N N) (-1) (fun j => j == 0) N i with
    | true => rfl
    | false => exact absurd ⟨i, hi, hh⟩ hx
end Go.Eng
