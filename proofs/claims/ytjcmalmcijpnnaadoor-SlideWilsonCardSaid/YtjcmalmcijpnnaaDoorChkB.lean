/-
  Sets of places as bits: plain laws, by trial of all of them.
  Conditions: places below 9.
-/
import Derived.WalkKit
import Derived.KernelRfl
namespace Go.Eng
open Go.RowKit

theorem all_bits (p : Nat → Nat → Bool) (h : ((List.range 512).all fun M => (List.range 9).all fun j => p M j) = true) {M j : Nat} (hM : M < 512) (hj : j < 9) : p M j = true :=
  List.all_eq_true.1 (List.all_eq_true.1 h M (List.mem_range.2 hM)) j (List.mem_range.2 hj)

theorem or_bit {M j : Nat} (hM : M < 512) (hj : j < 9) : bits BinOp.or IntKind.i64 (M : Int) (wrap64 (2 ^ j)) = ((M ||| 2 ^ j : Nat) : Int) := by
  have := all_bits (fun M j => decide (bits BinOp.or IntKind.i64 (M : Int) (wrap64 (2 ^ j)) = ((M ||| 2 ^ j : Nat) : Int))) (by kernel_rfl) hM hj
  exact of_decide_eq_true this

theorem has_bit {M j : Nat} (hM : M < 512) (hj : j < 9) : (((M : Int) / 2 ^ j).tmod 2 == 1) = M.testBit j := by
  have := all_bits (fun M j => decide ((((M : Int) / 2 ^ j).tmod 2 == 1) = M.testBit j)) (by kernel_rfl) hM hj
  exact of_decide_eq_true this

theorem or_lt {M j : Nat} (hM : M < 512) (hj : j < 9) : M ||| 2 ^ j < 512 := by
  have := all_bits (fun M j => decide (M ||| 2 ^ j < 512)) (by kernel_rfl) hM hj
  exact of_decide_eq_true this

theorem testBit_or (M i j : Nat) : (M ||| 2 ^ j).testBit i = (M.testBit i || decide (j = i)) := by
  rw [Nat.testBit_or, Nat.testBit_two_pow]

/-- A position. -/
def IsPos (n : Int) (zs : List Int) : Prop := (2 ≤ n ∧ n ≤ 9) ∧ (zs.length : Int) = n ∧ (∀ x ∈ zs, 0 ≤ x ∧ x < n) ∧ zs.Nodup

/-- The first k numbers are apart, in range, and their places are the bits. -/
structure Seen (n : Int) (zs : List Int) (k M : Nat) : Prop where
  small : M < 512
  range : ∀ x ∈ zs.take k, 0 ≤ x ∧ x < n
  apart : (zs.take k).Nodup
  bit : ∀ j : Nat, j < 9 → (M.testBit j = true ↔ (j : Int) ∈ zs.take k)

theorem Seen.start (n : Int) (zs : List Int) : Seen n zs 0 0 := ⟨by omega, by simp, by simp, by simp⟩

theorem take_next {zs : List Int} {k : Nat} (h : k < zs.length) : zs.take (k + 1) = zs.take k ++ [zs[k]?.getD 0] := by
  rw [List.take_succ_eq_append_getElem h]
  simp [List.getElem?_eq_getElem h]

theorem Seen.next {n : Int} {zs : List Int} {k M : Nat} (h : Seen n zs k M) (hn : n ≤ 9) (hk : k < zs.length) (h0 : 0 ≤ zs[k]?.getD 0) (h1 : zs[k]?.getD 0 < n) (hb : M.testBit (zs[k]?.getD 0).toNat = false) :
    Seen n zs (k + 1) (M ||| 2 ^ (zs[k]?.getD 0).toNat) := by
  have hx : (((zs[k]?.getD 0).toNat : Nat) : Int) = zs[k]?.getD 0 := Int.toNat_of_nonneg h0
  have hlt : (zs[k]?.getD 0).toNat < 9 := by omega
  refine ⟨or_lt h.small hlt, ?_, ?_, ?_⟩
  · intro x hx
    rw [take_next hk, List.mem_append] at hx
    rcases hx with hx | hx
    · exact h.range x hx
    · simp at hx; subst hx; exact ⟨h0, h1⟩
  · rw [take_next hk, List.nodup_append]
    refine ⟨h.apart, by simp, ?_⟩
    intro a ha b hb' hab
    simp at hb'
    subst hb'
    subst hab
    have := (h.bit _ hlt).2 (by rw [hx]; exact ha)
    rw [hb] at this
    cases this
  · intro j hj
    rw [testBit_or, take_next hk, List.mem_append, Bool.or_eq_true, h.bit j hj, decide_eq_true_iff]
    constructor
    · rintro (q | q)
      · exact .inl q
      · exact .inr (by rw [← q, hx]; simp)
    · rintro (q | q)
      · exact .inl q
      · refine .inr ?_
        simp at q
        omega

theorem Seen.isPos {n : Int} {zs : List Int} {k M : Nat} (h : Seen n zs k M) (hn : 2 ≤ n ∧ n ≤ 9) (hl : (zs.length : Int) = n) (hk : n ≤ k) : IsPos n zs := by
  have e : zs.take k = zs := List.take_of_length_le (by omega)
  have hr := h.range
  have ha := h.apart
  rw [e] at hr ha
  exact ⟨hn, hl, hr, ha⟩

theorem Seen.notPos {n : Int} {zs : List Int} {k M : Nat} (h : Seen n zs k M) (hn : n ≤ 9) (hk : k < zs.length) (hb : ¬ (0 ≤ zs[k]?.getD 0 ∧ zs[k]?.getD 0 < n) ∨ (M.testBit (zs[k]?.getD 0).toNat = true ∧ 0 ≤ zs[k]?.getD 0 ∧ zs[k]?.getD 0 < n)) : ¬ IsPos n zs := by
  rintro ⟨_, _, hr, ha⟩
  have hm : zs[k]?.getD 0 ∈ zs := by
    rw [List.getElem?_eq_getElem hk]; exact List.getElem_mem hk
  rcases hb with hb | ⟨hb, h0, h1⟩
  · exact hb (hr _ hm)
  · have hx : (((zs[k]?.getD 0).toNat : Nat) : Int) = zs[k]?.getD 0 := Int.toNat_of_nonneg h0
    have := (h.bit _ (by omega)).1 hb
    rw [hx] at this
    have ha' : (zs.take (k + 1)).Nodup := ha.sublist (List.take_sublist _ _)
    rw [take_next hk, List.nodup_append] at ha'
    exact ha'.2.2 _ this _ (by simp) rfl

/-! ### Pigeonholes -/
theorem nodup_sub {α : Type} [DecidableEq α] : ∀ {l m : List α}, l.Nodup → (∀ x ∈ l, x ∈ m) → l.length ≤ m.length
  | [], _, _, _ => by simp
  | a :: l, m, h, hs => by
    rw [List.nodup_cons] at h
    have hm : a ∈ m := hs a (by simp)
    have := nodup_sub (m := m.erase a) h.2 fun x hx => by
      have hne : x ≠ a := fun e => h.1 (e ▸ hx)
      exact (List.mem_erase_of_ne hne).2 (hs x (by simp [hx]))
    rw [List.length_erase_of_mem hm] at this
    have hpos : 0 < m.length := List.length_pos_of_mem hm
    simp only [List.length_cons]
    omega

theorem double {α : Type} [DecidableEq α] : ∀ {l : List α}, ¬ l.Nodup → ∃ t : List α, t.length + 1 = l.length ∧ ∀ x ∈ l, x ∈ t
  | [], h => absurd List.nodup_nil h
  | a :: l, h => by
    by_cases ha : a ∈ l
    · exact ⟨l, rfl, fun x hx => by rcases List.mem_cons.1 hx with rfl | hx <;> assumption⟩
    · rw [List.nodup_cons] at h
      obtain ⟨t, h1, h2⟩ := double (l := l) fun q => h ⟨ha, q⟩
      refine ⟨a :: t, by simp [h1], fun x hx => ?_⟩
      rcases List.mem_cons.1 hx with rfl | hx
      · simp
      · simp [h2 x hx]

def upto (n : Nat) : List Int := (List.range n).map fun (j : Nat) => (j : Int)
theorem upto_len (n : Nat) : (upto n).length = n := by simp [upto]
theorem mem_upto {n : Nat} {x : Int} : x ∈ upto n ↔ 0 ≤ x ∧ x < n := by
  simp only [upto, List.mem_map, List.mem_range]
  constructor
  · rintro ⟨j, hj, rfl⟩; omega
  · rintro ⟨h0, h1⟩; exact ⟨x.toNat, by omega, by omega⟩
theorem upto_nodup (n : Nat) : (upto n).Nodup := by
  unfold upto
  rw [List.nodup_iff_pairwise_ne, List.pairwise_map]
  exact (List.nodup_iff_pairwise_ne.1 List.nodup_range).imp fun h q => h (by omega)

/-- Every place is met, and there are no more numbers than places: a position. -/
theorem isPos_of_full {n : Int} {zs : List Int} (hn : 2 ≤ n ∧ n ≤ 9) (hl : (zs.length : Int) = n) (hr : ∀ x ∈ zs, 0 ≤ x ∧ x < n) (hall : ∀ x : Int, 0 ≤ x → x < n → x ∈ zs) : IsPos n zs := by
  refine ⟨hn, hl, hr, ?_⟩
  by_cases h : zs.Nodup
  · exact h
  · obtain ⟨t, h1, h2⟩ := double h
    have := nodup_sub (upto_nodup zs.length) (m := t) fun x hx => by
      rw [mem_upto] at hx
      exact h2 x (hall x hx.1 (by omega))
    rw [upto_len] at this
    omega
theorem IsPos.full {n : Int} {zs : List Int} (h : IsPos n zs) {x : Int} (h0 : 0 ≤ x) (h1 : x < n) : x ∈ zs := by
  by_cases hx : x ∈ zs
  · exact hx
  · have := nodup_sub (l := x :: zs) (m := upto zs.length) (List.nodup_cons.2 ⟨hx, h.2.2.2⟩) fun y hy => by
      rw [mem_upto]
      have := h.2.1
      rcases List.mem_cons.1 hy with rfl | hy
      · omega
      · have := h.2.2.1 y hy; omega
    rw [upto_len] at this
    simp at this
    omega

/-- The first k numbers are in range, and their places are the bits. -/
structure Met (n : Int) (zs : List Int) (k M : Nat) : Prop where
  small : M < 512
  range : ∀ x ∈ zs.take k, 0 ≤ x ∧ x < n
  bit : ∀ j : Nat, j < 9 → (M.testBit j = true ↔ (j : Int) ∈ zs.take k)

theorem Met.start (n : Int) (zs : List Int) : Met n zs 0 0 := ⟨by omega, by simp, by simp⟩
theorem Met.next {n : Int} {zs : List Int} {k M : Nat} (h : Met n zs k M) (hn : n ≤ 9) (hk : k < zs.length) (h0 : 0 ≤ zs[k]?.getD 0) (h1 : zs[k]?.getD 0 < n) :
    Met n zs (k + 1) (M ||| 2 ^ (zs[k]?.getD 0).toNat) := by
  have hx : (((zs[k]?.getD 0).toNat : Nat) : Int) = zs[k]?.getD 0 := Int.toNat_of_nonneg h0
  have hlt : (zs[k]?.getD 0).toNat < 9 := by omega
  refine ⟨or_lt h.small hlt, ?_, ?_⟩
  · intro x hx
    rw [take_next hk, List.mem_append] at hx
    rcases hx with hx | hx
    · exact h.range x hx
    · simp at hx; subst hx; exact ⟨h0, h1⟩
  · intro j hj
    rw [testBit_or, take_next hk, List.mem_append, Bool.or_eq_true, h.bit j hj, decide_eq_true_iff]
    constructor
    · rintro (q | q)
      · exact .inl q
      · exact .inr (by rw [← q, hx]; simp)
    · rintro (q | q)
      · exact .inl q
      · refine .inr ?_
        simp at q
        omega
theorem Met.not {n : Int} {zs : List Int} {k : Nat} (hk : k < zs.length) (hb : ¬ (0 ≤ zs[k]?.getD 0 ∧ zs[k]?.getD 0 < n)) : ¬ IsPos n zs := by
  rintro ⟨_, _, hr, _⟩
  refine hb (hr _ ?_)
  rw [List.getElem?_eq_getElem hk]; exact List.getElem_mem hk

theorem full_bits {M n : Nat} (hM : M < 512) (hn : n < 10) : (M = 2 ^ n - 1) ↔ (∀ j < 9, M.testBit j = decide (j < n)) := by
  have h : ((List.range 512).all fun M => (List.range 10).all fun n => decide (M = 2 ^ n - 1) == (List.range 9).all fun j => M.testBit j == decide (j < n)) = true := by kernel_rfl
  have h1 := List.all_eq_true.1 (List.all_eq_true.1 h M (List.mem_range.2 hM)) n (List.mem_range.2 hn)
  rw [beq_iff_eq] at h1
  constructor
  · intro q j hj
    rw [decide_eq_true q] at h1
    simpa using List.all_eq_true.1 h1.symm j (List.mem_range.2 hj)
  · intro q
    refine of_decide_eq_true (h1.trans (List.all_eq_true.2 fun j hj => ?_))
    rw [q j (List.mem_range.1 hj)]; simp

theorem Met.done {n : Int} {zs : List Int} {k M : Nat} (h : Met n zs k M) (hn : 2 ≤ n ∧ n ≤ 9) (hk : zs.length ≤ k) : ((zs.length : Int) = n ∧ M = 2 ^ n.toNat - 1) ↔ IsPos n zs := by
  have e : zs.take k = zs := List.take_of_length_le hk
  have hr := h.range
  have hb := h.bit
  rw [e] at hr hb
  rw [full_bits h.small (by omega)]
  constructor
  · rintro ⟨hl, hf⟩
    refine isPos_of_full hn hl hr fun x h0 h1 => ?_
    have := (hb x.toNat (by omega)).1 (by rw [hf _ (by omega)]; simp; omega)
    rwa [Int.toNat_of_nonneg h0] at this
  · intro q
    refine ⟨q.2.1, fun j hj => ?_⟩
    by_cases hjn : (j : Int) < n
    · have := (hb j hj).2 (q.full (by omega) hjn)
      rw [this]; simp; omega
    · have : ¬ M.testBit j = true := fun t => by
        have := hr _ ((hb j hj).1 t)
        omega
      have h2 : ¬ j < n.toNat := by omega
      simp only [h2, decide_false]
      simpa using this
end Go.Eng
