/-
  The seat's pairs of lists of numbers, read as data.
  Conditions: none.
-/
import Derived.Test.YtjcmalmcijpnnaaDoorChkR
namespace Go.Eng
open Go.RowKit Go.Proofs Go.Proofs.YtjcmalmcijpnnaaDoor Go.ChangeShapes Go.WideShapes Go.Deep

theorem u39 : Tryd.prog.underlying 39 = some (.array 2 38) := by kernel_rfl
theorem cells38 : Tryd.prog.cellsOf 38 = 1 := by kernel_rfl
theorem cells39 : Tryd.prog.cellsOf 39 = 2 := by kernel_rfl

section
variable {H : Type} {enc : TypeId × Value → H} {W : World} {v : Value} {d : DataW H} {p : List MemPlace} {b0 : Nat}

set_option maxRecDepth 100000 in
theorem ints_cells {fuel : Nat} {x : DataW H × List MemPlace} (hf : DataW.trod enc Tryd.prog W 0 (fun _ => true) true fuel 38 [v] = some x) : ∃ zs, IntsAt W v zs := by
  rcases open_ints Go.Eng.u38 u3 cells3 hf with ⟨hcs, _⟩ | ⟨a, len', cap', zs, hcs, _, hl, hm, hz, _, hcell, _⟩
  · have : v = .slice none 0 0 := by simpa using hcs
    exact ⟨[], .inl ⟨this, rfl⟩⟩
  · have e : v = .slice (some a) len' cap' := by simpa using hcs
    simp only [if_true] at hz
    have hlt : (zs.take len').length = len' := by rw [List.length_take]; omega
    refine ⟨zs.take len', .inr ⟨a, cap', by rw [hlt]; exact e, by omega, by unfold maxLen at hm; omega, fun h0 => ?_, fun i hi => ?_⟩⟩
    · have := World.block_lt_of_cell? _ _ (hcell 0 (by omega))
      rw [add_block] at this
      exact this
    · rw [hcell i (by omega)]
      have : i < len' := by omega
      simp [List.getD_eq_getElem?_getD, List.getElem?_take, this]

set_option maxRecDepth 100000 in
theorem two_open (hval : Value.okWide Tryd.prog W .any b0 39 v) (h : DataW.Trod enc Tryd.prog W 0 (fun _ => true) true 39 v d p) : ∃ u t us ts, v = .agg #[u, t] ∧ IntsAt W u us ∧ IntsAt W t ts := by
  unfold Value.okWide at hval
  rw [u39] at hval
  obtain ⟨cs, rfl, hsz, _⟩ := hval
  rw [cells39] at hsz
  obtain ⟨fuel, hf⟩ := h
  have e : ∃ u t, cs = #[u, t] := by
    obtain ⟨l⟩ := cs
    match l, hsz with
    | [u, t], _ => exact ⟨u, t, rfl⟩
  obtain ⟨u, t, rfl⟩ := e
  obtain ⟨xs, m, _, _, _, hxl, hx⟩ := DataW.trod_array u39 hf
  have g0 := hx 0 (by omega)
  have g1 := hx 1 (by omega)
  rw [cells38, List.getElem?_eq_getElem (by omega)] at g0 g1
  simp [Value.cells] at g0 g1
  obtain ⟨us, hu⟩ := ints_cells g0
  obtain ⟨ts, ht⟩ := ints_cells g1
  exact ⟨u, t, us, ts, rfl, hu, ht⟩
end
end Go.Eng
