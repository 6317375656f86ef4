/-
  Rows of strings that are handed in: what lies in memory.
  Conditions: none.
-/
import Derived.SliceStrings
import Derived.Test.YtoamcgjbelhnkaaGreatDoorMatX
namespace Go.Num
open Go.ChangeShapes Go.WideShapes Go.Eng Go.RowKit Go.Proofs Go.Proofs.YtoamcgjbelhnkaaGreatDoor

section
variable {H : Type} {enc : TypeId × Value → H} {w : World} {base : Nat} {spare : Nat → Bool} {held : Bool}
/-- A row of strings. -/
theorem row_of {fuel : Nat} {v : Value} {x : DataW H × List MemPlace} (h : DataW.trod enc Tryz.prog w base spare held fuel 53 [v] = some x) : ∃ (n : Nat) (s : Nat → ByteArray), ReadAt w v n (fun j => .string (s j)) ∧ ∀ j, j < n → (s j).size ≤ 9223372036854775807 := by
  rcases open_strings (e := 9) (by kernel_rfl) (by kernel_rfl) (by kernel_rfl) h with ⟨hcs, _⟩ | ⟨a, len, cap, ss, hcs, _, hl, hm, hz, _, hcell, hsz⟩
  · injection hcs with hv _
    exact ⟨0, fun _ => ByteArray.empty, ⟨none, 0, hv, by omega, fun h => absurd h (by omega)⟩, fun j hj => absurd hj (by omega)⟩
  · injection hcs with hv _
    have hlen : len ≤ ss.length := by rw [hz]; split <;> omega
    have hm' : cap ≤ 9223372036854775807 := hm
    refine ⟨len, fun j => ss.getD j ByteArray.empty, ⟨some a, cap, hv, by omega, fun h0 => ⟨a, rfl, ?_, fun i hi => hcell i (by omega)⟩⟩, fun j hj => ?_⟩
    · have := World.block_lt_of_cell? _ _ (hcell 0 (by omega))
      rwa [add_block] at this
    · have hmem : ss.getD j ByteArray.empty ∈ ss := by
        rw [List.getD_eq_getElem?_getD, List.getElem?_eq_getElem (by omega)]
        exact List.getElem_mem _
      exact hsz _ hmem
/-- Rows of strings. -/
theorem tab_of {v : Value} {d : DataW H} {ps : List MemPlace} (hs : ∃ a len cap, v = .slice a len cap) (h : DataW.Trod enc Tryz.prog w base spare held 52 v d ps) : ∃ (n : Nat) (rv : Nat → Value) (m : Nat → Nat) (s : Nat → Nat → ByteArray), TabAt w v n rv m s := by
  obtain ⟨a, len, cap, rfl⟩ := hs
  obtain ⟨fuel, h⟩ := h
  have h : DataW.trod enc Tryz.prog w base spare held fuel 52 [.slice a len cap] = some (d, ps) := h
  rcases DataW.trod_slice (e := 53) (by kernel_rfl) h with ⟨hcs, _⟩ | ⟨a, len, cap, elems, rest, n, _, hcs, _, _, hl, hm, hlen, hel, _, _⟩
  · injection hcs with hv _
    exact ⟨0, fun _ => .nilFunc, fun _ => 0, fun _ _ => ByteArray.empty, ⟨none, 0, hv, by omega, fun h => absurd h (by omega)⟩, fun i hi => absurd hi (by omega), fun i j hi _ => absurd hi (by omega)⟩
  · injection hcs with hv _
    have hm' : cap ≤ 9223372036854775807 := hm
    have each : ∀ i, ∃ t : Value × Nat × (Nat → ByteArray), i < len → w.cell? (a.add i) = some t.1 ∧ ReadAt w t.1 t.2.1 (fun j => .string (t.2.2 j)) ∧ ∀ j, j < t.2.1 → (t.2.2 j).size ≤ 9223372036854775807 := by
      intro i
      by_cases hi : i < len
      · have he := hel i hi
        rw [show Tryz.prog.cellsOf 53 = 1 by kernel_rfl, Nat.mul_one, List.getElem?_eq_getElem (by omega), Option.bind_eq_some_iff] at he
        obtain ⟨cs, hcs, hy⟩ := he
        obtain ⟨x, rfl⟩ : ∃ x, cs = [x] := by
          rcases DataW.trod_slice (e := 9) (by kernel_rfl) hy with ⟨rfl, _⟩ | ⟨_, _, _, _, _, _, _, rfl, _⟩
          · exact ⟨_, rfl⟩
          · exact ⟨_, rfl⟩
        obtain ⟨k, s, h1, h2⟩ := row_of hy
        exact ⟨(x, k, s), fun _ => ⟨cell_of_cells?_one hcs, h1, h2⟩⟩
      · exact ⟨(.nilFunc, 0, fun _ => ByteArray.empty), fun h => absurd h hi⟩
    have hall := fun i => Classical.choose_spec (each i)
    refine ⟨len, fun i => (Classical.choose (each i)).1, fun i => (Classical.choose (each i)).2.1, fun i => (Classical.choose (each i)).2.2, ⟨some a, cap, hv, by omega, fun h0 => ⟨a, rfl, ?_, fun i hi => (hall i hi).1⟩⟩, fun i hi => (hall i hi).2.1, fun i j hi hj => (hall i hi).2.2 j hj⟩
    have := World.block_lt_of_cell? _ _ (hall 0 h0).1
    rwa [add_block] at this
end
end Go.Num
