/-
  The operations that make an object, and the barriers that call no Go function: each gives what the model's gives.
  Conditions: none; lemmas for the soundness proof.
-/
import Derived.Test.YtjcmalmcijpnnaaDoorEngH
import Derived.Laws.MakeOwn
namespace Go.Eng
open Go.RowKit

def Mk.obj : Mk → Nat → AObj
  | .cells e cs, i => .cells i 0 e cs
  | .map kt, _ => .map kt .nil

section
variable {P : Program} {B : Nat} {w0 : World} {G : List Nat} {μ : Mu} {H : AH} {w : World}

theorem range_cells (A : Array Value) (hs : 0 < A.size) : ∀ n, (List.range (n * A.size)).map (fun i => A[i % A.size]!) = (List.replicate n A.toList).flatten
  | 0 => by simp
  | n + 1 => by
    have ih := range_cells A hs n
    rw [show (n + 1) * A.size = A.size + n * A.size from by rw [Nat.add_mul]; omega, List.range_add, List.map_append, List.map_map]
    have e1 : (List.range A.size).map (fun i => A[i % A.size]!) = A.toList := by
      apply List.ext_getElem
      · simp
      · intro i h1 h2
        have hi : i < A.size := by simpa using h1
        simp [Nat.mod_eq_of_lt hi, hi]
    have e2 : (List.range (n * A.size)).map ((fun i => A[i % A.size]!) ∘ fun x => A.size + x) = (List.replicate n A.toList).flatten := by
      rw [← ih]
      apply List.map_congr_left
      intro i _
      simp
    rw [e1, e2, List.replicate_succ, List.flatten_cons]

theorem made_LR {z : AV} {A : Array Value} (hz : LR μ z A.toList) (hs : 0 < A.size) (n m : Nat) (hm : m = n * A.size) : LR μ (AV.rep n z) ((Array.range m).map (A[· % A.size]!)).toList := by
  subst hm
  rw [Array.toList_map, Array.toList_range, range_cells A hs]
  exact LR.rep hz n

theorem fits_cells {e te : TypeId} {cs : AV} {arr : Array Value} (hL : LR μ cs arr.toList) (i : Nat) : Fits P μ ((Mk.cells e cs).obj i) (.cells arr te) arr.size where
  cells := by
    intro fam ver e' cs' he
    cases he
    have := hL.len
    rw [Array.length_toList] at this
    refine ⟨arr, te, rfl, rfl, by omega, ?_⟩
    rw [List.take_of_length_le (by simp; omega)]
    exact hL
  map := by intro kt es he; cases he
  loop := by intro _ _ _ _ _ _ _ _ _ he; cases he
  defd := by intro _ he; cases he

theorem fits_map (kt : TypeId) (i N : Nat) : Fits P μ ((Mk.map kt).obj i) (.map #[] 0) N where
  cells := by intro _ _ _ _ he; cases he
  map := by intro kt' es he; cases he; exact ⟨#[], 0, rfl, rfl⟩
  loop := by intro _ _ _ _ _ _ _ _ _ he; cases he
  defd := by intro _ he; cases he

theorem fillParts_len {ρ : Env} {pl : Nat → Option (Nat × Nat)} : ∀ {ps : List (Nat × Operand)} {a b : AV}, fillParts pl ρ a ps = some b → b.len = a.len
  | [], a, b, q => by simp [fillParts] at q; rw [q]
  | (i, x) :: r, a, b, q => by
    simp only [fillParts] at q
    split at q
    · rename_i off n v hp hx
      cases hb : Nat.beq v.cells.len n with
      | false => rw [hb] at q; simp at q
      | true =>
        rw [hb] at q
        simp only [cond_true] at q
        split at q
        · rename_i c hc
          rw [fillParts_len q, put_len hc]
        · simp at q
    · simp at q
theorem rep_len {z : AV} (h : z.isList = true) : ∀ n, (AV.rep n z).len = n * z.len
  | 0 => by simp [AV.rep, AV.len]
  | n + 1 => by rw [AV.rep, len_app h, rep_len h n, Nat.add_mul]; omega

theorem alloc_sound {ρ : Env} {ρc : Operand → Value} {o : Oper} (hρ : ∀ x ∈ o.op.operands, ∀ v, ρ x = some v → VR μ v (ρc x)) {mk : Mk} {f : Nat → AV} (ha : allocOf P ρ o.op = some (mk, f)) (w : World) :
    ∃ obj N x, (execOp ρc o).run P w = .ok (.value x) (w.alloc obj) ∧ (∀ i, Fits P μ (mk.obj i) obj N) ∧ ∀ (ν : Mu) i, ν i = some (w.heap.size, N) → VR ν (f i) x := by
  obtain ⟨dst, op, type, pos, after, guard⟩ := o
  simp only at hρ ha
  cases op with
  | alloc e =>
    simp only [allocOf, Option.map_eq_some_iff] at ha
    obtain ⟨z, hz, ha⟩ := ha
    cases ha
    obtain ⟨zi, zx, hz1, hz2, hz3, hz4⟩ := zero_of μ hz
    refine ⟨.cells zx.cells e, zx.cells.size, .pointer (some ⟨w.heap.size, 0, none⟩), ?_, fun i => fits_cells hz3.cells i, fun ν i hν => ⟨_, _, hν, rfl⟩⟩
    simp [execOp, Instr.alloc, hz4, newVar, newRow]
  | box e x =>
    simp only [allocOf, Option.map_eq_some_iff] at ha
    obtain ⟨v, hv, ha⟩ := ha
    cases ha
    have h1 := hρ x (by simp [Op.operands]) _ hv
    refine ⟨.cells (ρc x).cells e, (ρc x).cells.size, .pointer (some ⟨w.heap.size, 0, none⟩), ?_, fun i => fits_cells h1.cells i, fun ν i hν => ⟨_, _, hν, rfl⟩⟩
    simp [execOp, Instr.box, newVar, newRow]
  | buildSlice t len parts =>
    simp only [allocOf] at ha
    split at ha
    · rename_i e hu
      split at ha
      · rename_i z n hz hs
        cases hb : (Nat.beq n 0 || Nat.ble 1000000 (len * n) || !Nat.beq z.cells.len n) with
        | true => rw [hb] at ha; simp at ha
        | false =>
          rw [hb] at ha
          simp only [Bool.or_eq_false_iff, Bool.not_eq_false'] at hb
          obtain ⟨⟨b1, b2⟩, b3⟩ := hb
          have b1 := (beq_false _ _).1 b1
          have b3 := (beq_iff _ _).1 b3
          have b2 : len * n < 1000000 := by
            refine Decidable.byContradiction fun q => ?_
            rw [Nat.ble_eq_true_of_le (by omega)] at b2; cases b2
          simp only [cond_false, Option.map_eq_some_iff] at ha
          obtain ⟨cs, hfill, ha⟩ := ha
          cases ha
          obtain ⟨zi, zx, hz1, hz2, hz3, hz4⟩ := zero_of μ hz
          have hzc := hz3.cells
          have hzs : zx.cells.size = n := by rw [← Array.length_toList, hzc.len, b3]
          have hp : ∀ p ∈ parts.toList, ∀ v, ρ p.2 = some v → VR μ v (ρc p.2) := by
            intro p hp
            exact hρ p.2 (by simp only [Op.operands, List.mem_toArray, List.mem_map]; exact ⟨p, hp, rfl⟩)
          have hmap : (parts.map fun (i, x) => (i, ρc x)).toList = parts.toList.map fun (p : Nat × Operand) => (p.1, ρc p.2) := by simp
          obtain ⟨cells', h1, h2⟩ := fill_sound parts.toList _ cs _ hp (made_LR hzc (by omega) len (len * n) (by rw [hzs])) hfill
          refine ⟨.cells cells' e, cells'.size, .slice (some ⟨w.heap.size, 0, none⟩) len len, ?_, fun i => fits_cells h2 i, fun ν i hν => ⟨_, _, len, hν, rfl, Nat.le_refl _, fun _ => rfl, ?_, Nat.le_refl _⟩⟩
          · have hbig : ¬ (16777216 < len * n) := by omega
            refine run_val ?_
            simp only [Instr.buildSlice, Sem.run_bind, run_underlying hu, Result.andThen_ok, run_size hs]
            rw [if_neg (by simpa using hbig)]
            by_cases hln : len * n = 0
            · simp only [if_pos hln, Sem.run_bind, Sem.run_pure, Result.andThen_ok, hmap]
              have hl0 : len = 0 := by
                rcases Nat.mul_eq_zero.1 hln with q | q
                · exact q
                · omega
              subst hl0
              have e1 : (Array.range (0 * n)).map (fun i => zx.cells[i % zx.cells.size]!) = (Array.range (0 * n)).map (fun i => (#[] : Array Value)[i % (#[] : Array Value).size]!) := by simp
              rw [e1] at h1
              rw [h1]
              simp [newRow]
            · simp only [if_neg hln, Sem.run_bind, hz4, Sem.run_pure, Result.andThen_ok, hmap, h1]
              simp [newRow]
          · have hcl := h2.len
            rw [fillParts_len hfill, rep_len (hzc.isList), b3, Array.length_toList] at hcl
            omega
      · simp at ha
    · simp at ha
  | makeSlice t l c =>
    simp only [allocOf] at ha
    split at ha
    · rename_i e lv cv hu hl hc
      split at ha
      · rename_i z inf len cap hz hi hln hcn
        cases hb : (Nat.beq inf.size 0 || Nat.ble 1000000000 ((cap + 1) * (inf.bytes + 1)) || Nat.blt cap len || !Nat.beq z.cells.len inf.size) with
        | true => rw [hb] at ha; simp at ha
        | false =>
          rw [hb] at ha
          simp only [Bool.or_eq_false_iff, Bool.not_eq_false'] at hb
          obtain ⟨⟨⟨b1, b2⟩, b3⟩, b4⟩ := hb
          have b1 := (beq_false _ _).1 b1
          have b4 := (beq_iff _ _).1 b4
          have b2 : (cap + 1) * (inf.bytes + 1) < 1000000000 := by
            refine Decidable.byContradiction fun q => ?_
            rw [Nat.ble_eq_true_of_le (by omega)] at b2; cases b2
          have b3 : len ≤ cap := by
            refine Decidable.byContradiction fun q => ?_
            rw [(blt_iff cap len).2 (by omega)] at b3; cases b3
          simp only [cond_false, Option.some.injEq] at ha
          cases ha
          obtain ⟨zi, zx, hz1, hz2, hz3, hz4⟩ := zero_of μ hz
          rw [hi] at hz1; cases hz1
          have hzc := hz3.cells
          have hzs : zx.cells.size = inf.size := by rw [← Array.length_toList, hzc.len, b4]
          obtain ⟨kl, el⟩ := nat_val hln (hρ l (by simp [Op.operands]) _ hl)
          obtain ⟨kc, ec⟩ := nat_val hcn (hρ c (by simp [Op.operands]) _ hc)
          have hcap : cap + 1 ≤ (cap + 1) * (inf.bytes + 1) := Nat.le_mul_of_pos_right _ (by omega)
          have hby : inf.bytes * cap ≤ (cap + 1) * (inf.bytes + 1) := by rw [Nat.mul_comm]; exact Nat.mul_le_mul (by omega) (by omega)
          have hrun := run_make w t e inf zx hu hi hz2 kl kc (len : Int) (cap : Int) (by omega) (by omega) (by
            have : ((inf.bytes * cap : Nat) : Int) ≤ 281474976710656 := by omega
            simpa using this) (by omega)
          have hLR := made_LR hzc (by omega) cap (cap * inf.size) (by rw [hzs])
          refine ⟨.cells (madeCells zx.cells (cap * inf.size)) e, (madeCells zx.cells (cap * inf.size)).size, .slice (some ⟨w.heap.size, 0, none⟩) len cap, ?_, fun i => fits_cells hLR i, fun ν i hν => ⟨_, _, cap, hν, rfl, Nat.le_refl _, fun _ => rfl, by simp [madeCells], b3⟩⟩
          refine run_val ?_
          rw [el, ec]
          simpa using hrun
      · simp at ha
    · simp at ha
  | makeMap t r =>
    cases r with
    | some x => simp [allocOf] at ha
    | none =>
      simp only [allocOf] at ha
      split at ha
      · rename_i kt et hu
        cases ha
        refine ⟨.map #[] 0, 0, .map (some w.heap.size), ?_, fun i => fits_map kt i 0, fun ν i hν => ⟨_, _, hν, rfl⟩⟩
        simp [execOp, Instr.makeMap]
      · simp at ha
  | _ => simp [allocOf] at ha

end
end Go.Eng
