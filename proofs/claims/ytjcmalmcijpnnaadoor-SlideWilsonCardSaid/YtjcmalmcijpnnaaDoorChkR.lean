/-
  The seat's slices of numbers and of pairs, read as data.
  Conditions: none.
-/
import Derived.Test.YtjcmalmcijpnnaaDoorChkF
import Derived.Carry
import Derived.OpenShut
import Derived.Deep.Slices
namespace Go.Eng
open Go.RowKit Go.Proofs Go.Proofs.YtjcmalmcijpnnaaDoor Go.ChangeShapes Go.WideShapes Go.Deep

theorem u3 : Tryd.prog.underlying 3 = some (.int .i64) := by kernel_rfl
theorem u75 : Tryd.prog.underlying 75 = some (.array 2 3) := by kernel_rfl
theorem cells3 : Tryd.prog.cellsOf 3 = 1 := by kernel_rfl
theorem cells75 : Tryd.prog.cellsOf 75 = 2 := by kernel_rfl
theorem laidOut : laidOutB Tryd.prog = true := by kernel_rfl

section
variable {H : Type} {enc : TypeId × Value → H} {W : World} {v : Value} {d : DataW H} {p : List MemPlace} {b0 : Nat}

set_option maxRecDepth 100000 in
theorem ints_open (hval : Value.okWide Tryd.prog W .any b0 38 v) (h : DataW.Trod enc Tryd.prog W 0 (fun _ => true) true 38 v d p) : ∃ zs, IntsAt W v zs := by
  obtain ⟨o, len, cap, rfl⟩ := okWide_slice u38 hval
  obtain ⟨fuel, hf⟩ := h
  rcases open_ints u38 u3 cells3 hf with ⟨hcs, _⟩ | ⟨a, len', cap', zs, hcs, _, hl, hm, hz, _, hcell, _⟩
  · have : Value.slice o len cap = .slice none 0 0 := by simpa [Value.cells] using hcs
    exact ⟨[], .inl ⟨this, rfl⟩⟩
  · have e : Value.slice o len cap = .slice (some a) len' cap' := by simpa [Value.cells] using hcs
    simp only [if_true] at hz
    have hlt : (zs.take len').length = len' := by rw [List.length_take]; omega
    refine ⟨zs.take len', .inr ⟨a, cap', by rw [hlt]; exact e, by omega, by unfold maxLen at hm; omega, fun h0 => ?_, fun i hi => ?_⟩⟩
    · have := World.block_lt_of_cell? _ _ (hcell 0 (by omega))
      rw [add_block] at this
      exact this
    · rw [hcell i (by omega)]
      have : i < len' := by omega
      simp [List.getD_eq_getElem?_getD, List.getElem?_take, this]

theorem flat_at : ∀ (ps : List (Int × Int)) (i : Nat), i < ps.length → (flat ps).getD (2 * i) 0 = (ps.getD i (0, 0)).1 ∧ (flat ps).getD (2 * i + 1) 0 = (ps.getD i (0, 0)).2 := fun ps i _ => ⟨flat_fst ps i, flat_snd ps i⟩

set_option maxRecDepth 100000 in
theorem pairs_open (hval : Value.okWide Tryd.prog W .any b0 22 v) (h : DataW.Trod enc Tryd.prog W 0 (fun _ => true) true 22 v d p) : ∃ ps, PairsAt W v ps := by
  obtain ⟨o, len, cap, rfl⟩ := okWide_slice u22 hval
  obtain ⟨fuel, hf⟩ := h
  rcases open_slice u22 hf with ⟨hcs, _⟩ | ⟨a, len', cap', m, n, D, Pl, hcs, _, hl, hm, hmm, _, hx⟩
  · have : Value.slice o len cap = .slice none 0 0 := by simpa [Value.cells] using hcs
    exact ⟨[], .inl ⟨this, rfl⟩⟩
  · have e : Value.slice o len cap = .slice (some a) len' cap' := by simpa [Value.cells] using hcs
    simp only [if_true] at hmm
    have each : ∀ i, i < m → ∃ q : Int × Int, W.cell? (a.add (2 * i)) = some (.int .i64 q.1) ∧ W.cell? (a.add (2 * i + 1)) = some (.int .i64 q.2) := by
      intro i hi
      obtain ⟨cs', h1, h2⟩ := hx i hi
      rw [cells75] at h1
      obtain ⟨_, hlen, hcell⟩ := World.cells?_some h1
      obtain ⟨xs, k, _, _, _, hxl, hf'⟩ := DataW.trod_array u75 h2
      match cs', hlen with
      | [v0, v1], _ =>
        have g0 := hf' 0 (by omega)
        have g1 := hf' 1 (by omega)
        rw [cells3, List.getElem?_eq_getElem (by omega)] at g0 g1
        obtain ⟨z0, hz0, _⟩ := DataW.trod_int u3 g0
        obtain ⟨z1, hz1, _⟩ := DataW.trod_int u3 g1
        simp at hz0 hz1
        have e0 := hcell 0 (by omega)
        have e1 := hcell 1 (by omega)
        rw [add_add] at e0 e1
        simp at e0 e1
        refine ⟨(z0, z1), ?_, ?_⟩
        · rw [Nat.mul_comm, e0, hz0]
        · rw [Nat.mul_comm, e1, hz1]
    obtain ⟨q, hq⟩ := choose_lt each
    have hll : ((List.range len').map q).length = len' := by simp
    have hget : ∀ i, i < len' → ((List.range len').map q).getD i (0, 0) = q i := fun i hi => by simp [List.getD_eq_getElem?_getD, hi]
    refine ⟨(List.range len').map q, .inr ⟨a, cap', by rw [hll]; exact e, by omega, by unfold maxLen at hm; omega, fun h0 => ?_, fun i hi => ?_⟩⟩
    · have := World.block_lt_of_cell? _ _ (hq 0 (by omega)).1
      rw [add_block] at this
      exact this
    · rw [hll] at hi
      obtain ⟨j, hj⟩ : ∃ j, i = 2 * j ∨ i = 2 * j + 1 := ⟨i / 2, by omega⟩
      rcases hj with rfl | rfl
      · rw [flat_fst, hget j (by omega)]; exact (hq j (by omega)).1
      · rw [flat_snd, hget j (by omega)]; exact (hq j (by omega)).2
end
end Go.Eng
