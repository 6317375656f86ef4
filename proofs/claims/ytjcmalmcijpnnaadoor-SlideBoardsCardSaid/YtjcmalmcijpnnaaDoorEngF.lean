/-
  Each quiet operation of the abstract machine gives what the model's operation gives.
  Conditions: none; lemmas for the soundness proof.
-/
import Derived.Test.YtjcmalmcijpnnaaDoorEngE
namespace Go.Eng
open Go.RowKit

section
variable {P : Program} {B : Nat} {w0 : World} {G : List Nat} {μ : Mu} {H : AH} {w : World}

theorem blt_iff (m n : Nat) : Nat.blt m n = true ↔ m < n := ⟨fun h => Nat.le_of_ble_eq_true h, fun h => Nat.ble_eq_true_of_le h⟩

theorem run_val {s : Sem Value} {x : Value} {w' : World} (h : s.run P w = .ok x w') : (do pure (Next.value (← s)) : Sem Next).run P w = .ok (.value x) w' := by
  simp [h]

/-- An integer index, as the model reads it. -/
theorem nat_val {v : AV} {n : Nat} {x : Value} (h : natOf v = some n) (hv : VR μ v x) : ∃ k, x = .int k (n : Int) := by
  obtain ⟨k, rfl⟩ := natOf_int h
  exact ⟨k, hv⟩

theorem load_agg (h : Rep P B w0 G μ H w) {t : TypeId} {i off n : Nat} {x : Value} {cs : AV} (ha : aggT P t = some true) (hs : sizeT P t = some n) (hx : VR μ (.ptr i off) x) (hc : H.cellsAt i off n = some cs) :
    ∃ y, (Instr.loadAt t x).run P w = .ok y w ∧ VR μ (.agg cs) y := by
  obtain ⟨b, N, hm, rfl⟩ := hx
  obtain ⟨xs, hl, hL, hcell⟩ := h.load hc hm
  have hr := run_loadCells_list (P := P) w ⟨b, off, none⟩ xs hcell
  rw [hl] at hr
  exact ⟨.agg xs.toArray, by simp [Instr.loadAt, Instr.sureAddr, loadVar, run_agg ha, run_size hs, hr], _, rfl, hL⟩

theorem load_one (h : Rep P B w0 G μ H w) {t : TypeId} {i off : Nat} {x : Value} {v r : AV} (ha : aggT P t = some false) (hx : VR μ (.ptr i off) x) (hc : H.cellsAt i off 1 = some (.cons v r)) :
    ∃ y, (Instr.loadAt t x).run P w = .ok y w ∧ VR μ v y := by
  obtain ⟨b, N, hm, rfl⟩ := hx
  obtain ⟨xs, hl, hL, hcell⟩ := h.load hc hm
  obtain ⟨y, r', rfl, h1, h2⟩ := hL
  have := hcell 0 y rfl
  rw [add_off, Nat.add_zero] at this
  exact ⟨y, by simp [Instr.loadAt, Instr.sureAddr, loadVar, run_agg ha, this], h1⟩

theorem nilEq_run {t : TypeId} {a b : AV} {x y : Value} {r : Bool} (h : nilEq P t a b = some r) (hx : VR μ a x) (hy : VR μ b y) (w : World) (d : Nat) : (Op.equalIn (d + 1) t x y).run P w = .ok r w := by
  unfold nilEq at h
  split at h <;> simp at h <;> subst h <;> rename_i hu
  · have e1 : x = .pointer none := hx
    have e2 : y = .pointer none := hy
    subst e1; subst e2; simp [Op.equalIn, run_underlying hu]
  · obtain ⟨b, N, hm, rfl⟩ := hx
    have e2 : y = .pointer none := hy
    subst e2; simp [Op.equalIn, run_underlying hu]
  · obtain ⟨b, N, hm, rfl⟩ := hy
    have e2 : x = .pointer none := hx
    subst e2; simp [Op.equalIn, run_underlying hu]
  · have e1 : x = .slice none 0 0 := hx
    have e2 : y = .slice none 0 0 := hy
    subst e1; subst e2; simp [Op.equalIn, run_underlying hu]
  · obtain ⟨b, N, c, hm, rfl, _⟩ := hx
    have e2 : y = .slice none 0 0 := hy
    subst e2; simp [Op.equalIn, run_underlying hu]
  · have e1 : x = .map none := hx
    have e2 : y = .map none := hy
    subst e1; subst e2; simp [Op.equalIn, run_underlying hu]
  · obtain ⟨b, N, hm, rfl⟩ := hx
    have e2 : y = .map none := hy
    subst e2; simp [Op.equalIn, run_underlying hu]
  · have e1 : x = .nilFunc := hx
    have e2 : y = .nilFunc := hy
    subst e1; subst e2; simp [Op.equalIn, run_underlying hu]
  · obtain ⟨xs, ys, rfl, _⟩ := hx
    have e2 : y = .nilFunc := hy
    subst e2; simp [Op.equalIn, run_underlying hu]

/-- The guard in front of == does nothing at these values. -/
theorem guard_run (op : BinOp) (t : TypeId) (x y : Operand) (a b : Value) (h : (∀ as bs, a = .agg as → b = .agg bs → P.eqGuardType P.depth t = false)) (hn : ¬ (a = .nilIface ∧ b = .nilIface)) (w : World) :
    (eqGuard op t x y a b).run P w = .ok () w := by
  have core : (match a, b with
      | .nilIface, .nilIface => (eqGuard op t x y .nilIface .nilIface).run P w
      | .agg as, .agg bs => (eqGuard op t x y (.agg as) (.agg bs)).run P w
      | _, _ => Result.ok () w) = .ok () w := by
    split
    · exact absurd ⟨rfl, rfl⟩ hn
    · rename_i as bs
      exact run_eqGuard_agg w op t x y as bs (h _ _ rfl rfl)
    · rfl
  split at core
  · exact core
  · exact core
  · rename_i h1 h2
    unfold eqGuard
    cases op <;> simp only [Bool.not_true, Bool.not_false, if_true, Bool.false_eq_true, if_false] <;> first | rfl | (split <;> first | rfl | exact (h1 rfl rfl).elim | exact (h2 _ _ rfl rfl).elim)

/-- What == says of two values one of which is nil. -/
theorem binOp_nil {t : TypeId} {a b : AV} {x y : Value} {r : Bool} (h : nilEq P t a b = some r) (hx : VR μ a x) (hy : VR μ b y) (w : World) :
    (binOp .eql t x y).run P w = .ok (.bool r) w ∧ (binOp .neq t x y).run P w = .ok (.bool (!r)) w ∧ (∀ as bs, x = .agg as → y = .agg bs → P.eqGuardType P.depth t = false) ∧ ¬ (x = .nilIface ∧ y = .nilIface) := by
  have he : (Op.equal t x y).run P w = .ok r w := nilEq_run h hx hy w 9999
  unfold nilEq at h
  split at h <;> simp at h <;> subst h
  · have e1 : x = .pointer none := hx
    have e2 : y = .pointer none := hy
    subst e1; subst e2; simp [binOp, he]
  · obtain ⟨b, N, hm, rfl⟩ := hx
    have e2 : y = .pointer none := hy
    subst e2; simp [binOp, he]
  · obtain ⟨b, N, hm, rfl⟩ := hy
    have e2 : x = .pointer none := hx
    subst e2; simp [binOp, he]
  · have e1 : x = .slice none 0 0 := hx
    have e2 : y = .slice none 0 0 := hy
    subst e1; subst e2; simp [binOp, he]
  · obtain ⟨b, N, c, hm, rfl, _⟩ := hx
    have e2 : y = .slice none 0 0 := hy
    subst e2; simp [binOp, he]
  · have e1 : x = .map none := hx
    have e2 : y = .map none := hy
    subst e1; subst e2; simp [binOp, he]
  · obtain ⟨b, N, hm, rfl⟩ := hx
    have e2 : y = .map none := hy
    subst e2; simp [binOp, he]
  · have e1 : x = .nilFunc := hx
    have e2 : y = .nilFunc := hy
    subst e1; subst e2; simp [binOp, he]
  · obtain ⟨xs, ys, rfl, _⟩ := hx
    have e2 : y = .nilFunc := hy
    subst e2; simp [binOp, he]

theorem bin_sound {op : BinOp} {t : TypeId} {ox oy : Operand} {a b v : AV} {x y : Value} (h : binV P op t a b = some v) (hx : VR μ a x) (hy : VR μ b y) (w : World) :
    ∃ z, (do eqGuard op t ox oy x y; binOp op t x y : Sem Value).run P w = .ok z w ∧ VR μ v z := by
  unfold binV at h
  split at h
  · rename_i j p l q
    have e1 : x = .int j p := hx
    have e2 : y = .int l q := hy
    subst e1; subst e2
    obtain ⟨z, h1, h2⟩ := scalar_run (w := w) μ h
    exact ⟨z, by simp [guard_run op t ox oy (.int j p) (.int l q) (by simp) (by simp) w, h1], h2⟩
  · rename_i p q
    have e1 : x = .bool p := hx
    have e2 : y = .bool q := hy
    subst e1; subst e2
    obtain ⟨z, h1, h2⟩ := scalar_run (w := w) μ h
    exact ⟨z, by simp [guard_run op t ox oy (.bool p) (.bool q) (by simp) (by simp) w, h1], h2⟩
  · rename_i p q
    have e1 : x = .string p := hx
    have e2 : y = .string q := hy
    subst e1; subst e2
    obtain ⟨z, h1, h2⟩ := scalar_run (w := w) μ h
    exact ⟨z, by simp [guard_run op t ox oy (.string p) (.string q) (by simp) (by simp) w, h1], h2⟩
  · rename_i p q
    cases hb : (keyFits P t (.agg p) && keyFits P t (.agg q) && !P.eqGuardType P.depth t) with
    | false => rw [hb] at h; simp at h
    | true =>
      rw [hb] at h
      simp only [Bool.and_eq_true, Bool.not_eq_true'] at hb
      have heq := equal_run hb.1.1 hb.1.2 hx hy 9998 w
      have heq' : (Op.equal t x y).run P w = .ok ((AV.agg p).beq (.agg q)) w := heq
      obtain ⟨xs, rfl, _⟩ := hx
      obtain ⟨ys, rfl, _⟩ := hy
      have hg := guard_run op t ox oy (.agg xs) (.agg ys) (fun _ _ _ _ => hb.2) (by simp) w
      simp only [cond_true] at h
      cases op <;> simp at h <;> subst h
      · exact ⟨.bool (p.beq q), by simp [hg, binOp, heq', AV.beq], rfl⟩
      · exact ⟨.bool (!p.beq q), by simp [hg, binOp, heq', AV.beq], rfl⟩
  · split at h
    · rename_i q hr
      simp at h; subst h
      obtain ⟨h1, h2, h3, h4⟩ := binOp_nil hr hx hy w
      exact ⟨.bool q, by simp [guard_run _ t ox oy x y h3 h4 w, h1], rfl⟩
    · rename_i q hr
      simp at h; subst h
      obtain ⟨h1, h2, h3, h4⟩ := binOp_nil hr hx hy w
      exact ⟨.bool (!q), by simp [guard_run _ t ox oy x y h3 h4 w, h2], rfl⟩
    · simp at h

theorem bound_run {b : Option (Option AV)} {d l y : Nat} {c : BoundsCode} {ov : Option Value} (h : bound b d = some l) (ho : ∀ v, b = some (some v) → ∃ x, ov = some x ∧ VR μ v x) (hn : b = none → ov = none) (hy : l ≤ y) (hd : b = none → d = l) (w : World) :
    (b = none ∧ ov = none ∧ l = d) ∨ ∃ x, ov = some x ∧ (Instr.sliceBound x y c).run P w = .ok l w := by
  unfold bound at h
  split at h
  · exact .inl ⟨rfl, hn rfl, (hd rfl).symm⟩
  · rename_i v
    obtain ⟨x, hx, hv⟩ := ho v rfl
    obtain ⟨k, rfl⟩ := nat_val h hv
    refine .inr ⟨_, hx, ?_⟩
    have h0 : (0 : Int) ≤ (l : Int) ∧ (l : Int) ≤ (y : Int) := ⟨by omega, by omega⟩
    simp [Instr.sliceBound, asIntOf, h0]
  · simp at h

theorem bounds_run {blo bhi : Option (Option AV)} {lo hi : Option Value} {l h len cap : Nat} (isS : Bool) (e1 : bound blo 0 = some l) (e2 : bound bhi len = some h)
    (o1 : ∀ v, blo = some (some v) → ∃ x, lo = some x ∧ VR μ v x) (n1 : blo = none → lo = none) (o2 : ∀ v, bhi = some (some v) → ∃ x, hi = some x ∧ VR μ v x) (n2 : bhi = none → hi = none)
    (h1 : l ≤ h) (h2 : h ≤ cap) (w : World) : (Instr.sliceBounds isS len cap lo hi none).run P w = .ok (l, h, cap) w := by
  have a1 : bhi = none → len = h := by intro q; rw [q] at e2; simpa [bound] using e2
  have a2 : blo = none → 0 = l := by intro q; rw [q] at e1; simpa [bound] using e1
  have r2 := fun c => bound_run (P := P) (c := c) (y := cap) e2 o2 n2 h2 a1 w
  have r1 := fun c => bound_run (P := P) (c := c) (y := h) e1 o1 n1 h1 a2 w
  unfold Instr.sliceBounds
  rcases r2 (if isS = true then .sliceAcap else .sliceAlen) with ⟨_, rfl, rfl⟩ | ⟨x, rfl, hx⟩ <;> rcases r1 .sliceB with ⟨_, rfl, rfl⟩ | ⟨y, rfl, hy⟩
  · simp
  · simp [hy]
  · simp [hx]
  · simp [hx, hy]

theorem bounds_run3 {blo bhi bmx : Option (Option AV)} {lo hi mx : Option Value} {l h m len cap : Nat} (isS : Bool) (e1 : bound blo 0 = some l) (e2 : bound bhi len = some h) (e3 : bound bmx 0 = some m) (hsome : bhi ≠ none) (hsome3 : bmx ≠ none)
    (o1 : ∀ v, blo = some (some v) → ∃ x, lo = some x ∧ VR μ v x) (n1 : blo = none → lo = none) (o2 : ∀ v, bhi = some (some v) → ∃ x, hi = some x ∧ VR μ v x) (n2 : bhi = none → hi = none)
    (o3 : ∀ v, bmx = some (some v) → ∃ x, mx = some x ∧ VR μ v x) (n3 : bmx = none → mx = none)
    (h1 : l ≤ h) (h2 : h ≤ m) (h3 : m ≤ cap) (w : World) : (Instr.sliceBounds isS len cap lo hi mx).run P w = .ok (l, h, m) w := by
  have a1 : bhi = none → len = h := fun q => absurd q hsome
  have a2 : blo = none → 0 = l := by intro q; rw [q] at e1; simpa [bound] using e1
  have r3 := fun c => bound_run (P := P) (c := c) (y := cap) e3 o3 n3 h3 (fun q => absurd q hsome3) w
  have r2 := fun c => bound_run (P := P) (c := c) (y := m) e2 o2 n2 h2 a1 w
  have r1 := fun c => bound_run (P := P) (c := c) (y := h) e1 o1 n1 h1 a2 w
  unfold Instr.sliceBounds
  rcases r3 (if isS = true then .slice3Acap else .slice3Alen) with ⟨q, _⟩ | ⟨z, rfl, hz⟩
  · exact absurd q hsome3
  · rcases r2 .slice3B with ⟨q, _⟩ | ⟨x, rfl, hx⟩
    · exact absurd q hsome
    · rcases r1 .slice3C with ⟨_, rfl, rfl⟩ | ⟨y, rfl, hy⟩
      · simp [hx, hz]
      · simp [hx, hy, hz]

theorem slice_sound (hR : Rep P B w0 G μ H w) {t : TypeId} {v u : AV} {x : Value} {blo bhi bmx : Option (Option AV)} {lo hi mx : Option Value} (h : sliceV P H t v blo bhi bmx = some u) (hx : VR μ v x)
    (o1 : ∀ v, blo = some (some v) → ∃ x, lo = some x ∧ VR μ v x) (n1 : blo = none → lo = none) (o2 : ∀ v, bhi = some (some v) → ∃ x, hi = some x ∧ VR μ v x) (n2 : bhi = none → hi = none)
    (o3 : ∀ v, bmx = some (some v) → ∃ x, mx = some x ∧ VR μ v x) (n3 : bmx = none → mx = none) :
    ∃ y, (Instr.sliceAt t x lo hi mx).run P w = .ok y w ∧ VR μ u y := by
  unfold sliceV at h
  split at h
  · rename_i e i o len cm ex esz hu
    obtain ⟨b, N, c, hm, rfl, hc1, hc2, hc3, hc4⟩ := hx
    split at h
    · rename_i sz l hh hs e1 e2
      have hmx := n3 rfl
      subst hmx
      cases hb : (Nat.beq sz esz && Nat.ble l hh && Nat.ble hh cm && Nat.blt l cm) with
      | true =>
        rw [hb] at h
        simp only [Bool.and_eq_true] at hb
        obtain ⟨⟨⟨b1, b2⟩, b3⟩, b4⟩ := hb
        have b1 := (beq_iff _ _).1 b1
        have b2 := Nat.le_of_ble_eq_true b2
        have b3 := Nat.le_of_ble_eq_true b3
        have b4 := (blt_iff _ _).1 b4
        subst b1
        simp only [cond_true, Option.some.injEq] at h
        subst h
        have hbd := bounds_run (P := P) true e1 e2 o1 n1 o2 n2 b2 (show hh ≤ c by omega) w
        have hne : ¬ c = l := by omega
        refine ⟨.slice (some ⟨b, o + l * sz, none⟩) (hh - l) (c - l), ?_, b, N, c - l, hm, rfl, by omega, ?_, ?_, by omega⟩
        · simp [Instr.sliceAt, Instr.slice, run_underlying hu, hbd, run_size hs, hne, add_off]
        · intro q; have := hc2 q; omega
        · have : l * sz + (c - l) * sz = c * sz := by rw [← Nat.add_mul]; congr 1; omega
          omega
      | false =>
        rw [hb] at h
        simp only [cond_false] at h
        cases hb' : (Nat.beq sz esz && Nat.beq l 0 && Nat.beq hh 0 && Nat.beq cm 0 && ex) with
        | false => rw [hb'] at h; simp at h
        | true =>
          rw [hb'] at h
          simp only [Bool.and_eq_true] at hb'
          obtain ⟨⟨⟨⟨b1, b2⟩, b3⟩, b4⟩, b5⟩ := hb'
          have b1 := (beq_iff _ _).1 b1
          have b2 := (beq_iff _ _).1 b2
          have b3 := (beq_iff _ _).1 b3
          have b4 := (beq_iff _ _).1 b4
          subst b1 b2 b3 b4
          simp only [cond_true, Option.some.injEq] at h
          subst h
          have hc0 := hc2 b5
          subst hc0
          have hbd := bounds_run (P := P) true e1 e2 o1 n1 o2 n2 (Nat.le_refl 0) (Nat.le_refl 0) w
          refine ⟨.slice (some ⟨b, o, none⟩) 0 0, ?_, b, N, 0, hm, rfl, by omega, fun _ => rfl, by omega, by omega⟩
          simp [Instr.sliceAt, Instr.slice, run_underlying hu, hbd, run_size hs]
    · rename_i sz l hh mx' hs e1 e2
      split at h
      · rename_i hi' m e3
        cases hb : (Nat.beq sz esz && Nat.ble l hh && Nat.ble hh m && Nat.ble m cm) with
        | false => rw [hb] at h; simp at h
        | true =>
          rw [hb] at h
          simp only [Bool.and_eq_true] at hb
          obtain ⟨⟨⟨b1, b2⟩, b3⟩, b4⟩ := hb
          have b1 := (beq_iff _ _).1 b1
          have b2 := Nat.le_of_ble_eq_true b2
          have b3 := Nat.le_of_ble_eq_true b3
          have b4 := Nat.le_of_ble_eq_true b4
          subst b1
          simp only [cond_true] at h
          have hbd := bounds_run3 (P := P) true e1 e2 e3 (by simp) (by simp) o1 n1 o2 n2 o3 n3 b2 b3 (show m ≤ c by omega) w
          cases hml : Nat.beq m l with
          | true =>
            rw [hml] at h
            simp only [cond_true, Option.some.injEq] at h
            have hml' := (beq_iff _ _).1 hml
            subst hml' h
            refine ⟨.slice (some ⟨b, o, none⟩) (hh - m) (m - m), ?_, b, N, m - m, hm, rfl, by omega, fun _ => rfl, by simp; omega, by omega⟩
            simp [Instr.sliceAt, Instr.slice, run_underlying hu, hbd, run_size hs]
          | false =>
            rw [hml] at h
            simp only [cond_false, Option.some.injEq] at h
            have hml' := (beq_false _ _).1 hml
            subst h
            refine ⟨.slice (some ⟨b, o + l * sz, none⟩) (hh - l) (m - l), ?_, b, N, m - l, hm, rfl, by omega, fun _ => rfl, ?_, by omega⟩
            · simp [Instr.sliceAt, Instr.slice, run_underlying hu, hbd, run_size hs, hml', add_off]
            · have : l * sz + (m - l) * sz = m * sz := by rw [← Nat.add_mul]; congr 1; omega
              have : m * sz ≤ c * sz := Nat.mul_le_mul_right _ (by omega)
              omega
      · simp at h
    · simp at h
  · rename_i e hu
    have hx' : x = .slice none 0 0 := hx
    subst hx'
    split at h
    · rename_i sz hs e1 e2
      simp at h; subst h
      have hmx := n3 rfl
      subst hmx
      have hbd := bounds_run (P := P) (len := 0) (cap := 0) true e1 e2 o1 n1 o2 n2 (Nat.le_refl 0) (Nat.le_refl 0) w
      exact ⟨.slice none 0 0, by simp [Instr.sliceAt, Instr.slice, run_underlying hu, hbd, run_size hs], rfl⟩
    · rename_i sz mx' hs e1 e2
      split at h
      · rename_i hi' e3
        simp at h; subst h
        have hbd := bounds_run3 (P := P) (len := 0) (cap := 0) true e1 e2 e3 (by simp) (by simp) o1 n1 o2 n2 o3 n3 (Nat.le_refl 0) (Nat.le_refl 0) (Nat.le_refl 0) w
        exact ⟨.slice none 0 0, by simp [Instr.sliceAt, Instr.slice, run_underlying hu, hbd, run_size hs], rfl⟩
      · simp at h
    · simp at h
  · rename_i n e i o hu
    obtain ⟨b, N, hm, rfl⟩ := hx
    split at h
    · rename_i esz l hh hs e1 e2
      have hmx := n3 rfl
      subst hmx
      split at h
      · rename_i fam ver te cs hl
        cases hb : (Nat.ble l hh && Nat.ble hh n && Nat.blt l n && Nat.ble (o + n * esz) cs.len) with
        | false => rw [hb] at h; simp at h
        | true =>
          rw [hb] at h
          simp only [Bool.and_eq_true] at hb
          obtain ⟨⟨⟨b1, b2⟩, b3⟩, b4⟩ := hb
          have b1 := Nat.le_of_ble_eq_true b1
          have b2 := Nat.le_of_ble_eq_true b2
          have b3 := (blt_iff _ _).1 b3
          have b4 := Nat.le_of_ble_eq_true b4
          simp only [cond_true, Option.some.injEq] at h
          subst h
          obtain ⟨ho, tip, lw, hf, hle⟩ := live_some hl
          obtain ⟨_, _, _, _, _, hcN, _, _⟩ := hR.cells _ _ _ _ _ _ _ _ _ ho hf hle hm
          have hbd := bounds_run (P := P) false e1 e2 o1 n1 o2 n2 b1 b2 w
          have hne : ¬ n = l := by omega
          refine ⟨.slice (some ⟨b, o + l * esz, none⟩) (hh - l) (n - l), ?_, b, N, n - l, hm, rfl, by omega, fun _ => rfl, ?_, by omega⟩
          · simp [Instr.sliceAt, Instr.sureAddr, run_underlying hu, hbd, run_size hs, hne, add_off]
          · have : l * esz + (n - l) * esz = n * esz := by rw [← Nat.add_mul]; congr 1; omega
            omega
      · simp at h
    · simp at h
  · rename_i s hu
    have hx' : x = .string s := hx
    subst hx'
    split at h
    · rename_i l hh e1 e2
      have hmx := n3 rfl
      subst hmx
      cases hb : (Nat.ble l hh && Nat.ble hh s.size) with
      | false => rw [hb] at h; simp at h
      | true =>
        rw [hb] at h
        simp only [Bool.and_eq_true] at hb
        have b1 := Nat.le_of_ble_eq_true hb.1
        have b2 := Nat.le_of_ble_eq_true hb.2
        simp only [cond_true, Option.some.injEq] at h
        subst h
        have hbd := bounds_run (P := P) false e1 e2 o1 n1 o2 n2 b1 b2 w
        exact ⟨.string (s.extract l hh), by simp [Instr.sliceAt, Instr.slice, run_underlying hu, hbd], rfl⟩
    · simp at h
  · simp at h

/-! ### Building -/
theorem zip_set (cs : List Value) : ∀ (off : Nat) (cells : Array Value), off + cs.length ≤ cells.size →
    ((cs.zipIdx).foldl (fun (acc : Array Value) (p : Value × Nat) => acc.setIfInBounds (off + p.2) p.1) cells).toList = cells.toList.take off ++ cs ++ cells.toList.drop (off + cs.length) := by
  have key : ∀ (cs : List Value) (s off : Nat) (cells : Array Value), off + s + cs.length ≤ cells.size →
      ((cs.zipIdx s).foldl (fun (acc : Array Value) (p : Value × Nat) => acc.setIfInBounds (off + p.2) p.1) cells).toList = cells.toList.take (off + s) ++ cs ++ cells.toList.drop (off + s + cs.length) := by
    intro cs
    induction cs with
    | nil => intro s off cells h; simp
    | cons c r ih =>
      intro s off cells h
      rw [List.zipIdx_cons, List.foldl_cons, ih (s + 1) off _ (by simp at h ⊢; omega)]
      simp only [Array.toList_setIfInBounds, List.length_cons] at h ⊢
      have hl : off + s < cells.toList.length := by simp; omega
      rw [show off + (s + 1) = off + s + 1 from by omega]
      generalize off + s = k at *
      rw [List.set_eq_take_append_cons_drop, if_pos hl]
      have e1 : (cells.toList.take k).length = k := by simp; omega
      have e2 : (cells.toList.take k ++ c :: cells.toList.drop (k + 1)).take (k + 1) = cells.toList.take k ++ [c] := by
        rw [List.take_append, e1, List.take_of_length_le (by omega), Nat.add_sub_cancel_left]; rfl
      have e3 : (cells.toList.take k ++ c :: cells.toList.drop (k + 1)).drop (k + 1 + r.length) = cells.toList.drop (k + (r.length + 1)) := by
        rw [List.drop_append, e1, List.drop_eq_nil_of_le (by omega), show k + 1 + r.length - k = r.length + 1 from by omega, List.drop_succ_cons, List.drop_drop, List.nil_append]
        congr 1; omega
      rw [e2, e3]; simp
  intro off cells h
  have := key cs 0 off cells (by omega)
  simpa using this

theorem fill_sound {ρ : Env} {ρc : Operand → Value} {pl : Nat → Option (Nat × Nat)} : ∀ (ps : List (Nat × Operand)) (cs out : AV) (cells : Array Value),
    (∀ p ∈ ps, ∀ v, ρ p.2 = some v → VR μ v (ρc p.2)) → LR μ cs cells.toList → fillParts pl ρ cs ps = some out →
    ∃ cells', Instr.fill pl cells (ps.map fun (p : Nat × Operand) => (p.1, ρc p.2)) = some cells' ∧ LR μ out cells'.toList := by
  intro ps
  induction ps with
  | nil => intro cs out cells _ hL h; simp [fillParts] at h; subst h; exact ⟨cells, rfl, hL⟩
  | cons p r ih =>
    obtain ⟨i, x⟩ := p
    intro cs out cells hρ hL h
    simp only [fillParts] at h
    split at h
    · rename_i off n v hp hx
      cases hb : Nat.beq v.cells.len n with
      | false => rw [hb] at h; simp at h
      | true =>
        rw [hb] at h
        have hb := (beq_iff _ _).1 hb
        simp only [cond_true] at h
        split at h
        · rename_i cs' hput
          have hv := (hρ (i, x) (by simp) v hx).cells
          obtain ⟨h1, h2⟩ := LR.put hL hv hput
          have hlen := hv.len
          have hsz : (ρc x).cells.size = n := by rw [← Array.length_toList, hlen, hb]
          have hz := zip_set (ρc x).cells.toList off cells (by simpa using h1)
          have e0 : ((ρc x).cells.zipIdx.foldl (fun cs (q : Value × Nat) => cs.setIfInBounds (off + q.2) q.1) cells).toList = cells.toList.take off ++ (ρc x).cells.toList ++ cells.toList.drop (off + (ρc x).cells.toList.length) := by
            rw [← hz, ← Array.foldl_toList, Array.toList_zipIdx]
          obtain ⟨cells', h3, h4⟩ := ih cs' out _ (fun q hq => hρ q (by simp [hq])) (by rw [e0]; exact h2) h
          refine ⟨cells', ?_, h4⟩
          simp only [List.map_cons, Instr.fill, hp]
          rw [if_neg ?_]
          · exact h3
          · simp only [Bool.or_eq_true, decide_eq_true_eq]
            rintro (q | q)
            · exact q hsz
            · simp at h1; omega
        · simp at h
    · simp at h

end
end Go.Eng
