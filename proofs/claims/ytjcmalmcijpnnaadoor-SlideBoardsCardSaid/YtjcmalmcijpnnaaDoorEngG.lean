/-
  Maps: look-ups and stores of the abstract machine are those of the model.
  Conditions: none; lemmas for the soundness proof.
-/
import Derived.Test.YtjcmalmcijpnnaaDoorEngF
import Derived.MapKept
namespace Go.Eng
open Go.RowKit

section
variable {P : Program} {B : Nat} {w0 : World} {G : List Nat} {μ : Mu} {H : AH} {w : World}

theorem int_at {k : IntKind} : ∀ {cs : AV} {xs : List Value} {i : Nat}, LR μ cs xs → allInts k cs = true → i < cs.len → ∃ n, xs[i]? = some (.int k n)
  | .nil, xs, i, _, _, h => by simp [AV.len] at h
  | .cons h t, xs, i, hL, hi, hlt => by
    obtain ⟨n, rfl, h2⟩ := allInts_cons hi
    obtain ⟨x, r, rfl, h3, h4⟩ := hL
    have hx : x = .int k n := h3
    cases i with
    | zero => exact ⟨n, by simp [hx]⟩
    | succ i =>
      obtain ⟨m, hm⟩ := int_at h4 h2 (by simp [AV.len] at hlt; omega : i < t.len)
      exact ⟨m, by simpa using hm⟩
  | .sc _, _, _, h, _, _ | .ptr .., _, _, h, _, _ | .slc .., _, _, h, _, _ | .map _, _, _, h, _, _ | .yield _, _, _, h, _, _ | .fn .., _, _, h, _, _ | .iface .., _, _, h, _, _ | .agg _, _, _, h, _, _ | .tup _, _, _, h, _, _ => h.elim

theorem checkKey_run {kt : TypeId} {key : AV} {x : Value} (hk : keyFits P kt key = true) (hx : VR μ key x) (em : Bool) (w : World) : (Instr.checkKey em 10000 kt x).run P w = .ok () w := by
  rcases keyFits_cases hk with ⟨k, n, hu, rfl⟩ | ⟨s, hu, rfl⟩ | ⟨q, hu, rfl⟩ | ⟨n, e, k, cs, hu, he, hs, rfl, hl, hi⟩
  · have hx' : x = .int k n := hx
    subst hx'
    exact Go.MapKept.run_checkKey hu (by simp [Go.MapKept.IsKey]) em 9999
  · have hx' : x = .string s := hx
    subst hx'
    exact Go.MapKept.run_checkKey hu (by simp [Go.MapKept.IsKey]) em 9999
  · have hx' : x = .bool q := hx
    subst hx'
    exact Go.MapKept.run_checkKey hu (by simp [Go.MapKept.IsKey]) em 9999
  · obtain ⟨xs, rfl, hx1⟩ := hx
    have hstep : ∀ d, (Instr.checkKey em (d + 2) kt (.agg xs)).run P w = .ok () w := by
      intro d
      rw [Instr.checkKey]
      simp only [Sem.run_bind, run_underlying hu, Result.andThen_ok, Std.Legacy.Range.forIn_eq_forIn_range', Std.Legacy.Range.size, Nat.sub_zero, Nat.add_sub_cancel, Nat.div_one]
      have hr : ∀ i ∈ List.range' 0 n 1, i < cs.len := fun i q => by have := (List.mem_range'_1.1 q).2; omega
      generalize List.range' 0 n 1 = is at hr
      induction is with
      | nil => simp
      | cons i r ih =>
        obtain ⟨m, hm⟩ := int_at hx1 hi (hr i (by simp))
        have hm' : xs[i]? = some (.int k m) := by simpa using hm
        have p1 : (part e xs (i * 1)).run P w = .ok (.int k m) w := by simp [part, isAgg, run_underlying he, hm']
        have p2 : (Instr.checkKey em (d + 1) e (.int k m)).run P w = .ok () w := Go.MapKept.run_checkKey he (by simp [Go.MapKept.IsKey]) em d
        simp only [List.forIn_cons, Sem.run_bind, run_size hs, p1, p2, Result.andThen_ok, Sem.run_pure]
        exact ih (fun j hj => hr j (by simp [hj]))
    exact hstep 9998

/-- What a search for a key finds. -/
def Found (P : Program) (μ : Mu) (kt : TypeId) (key : AV) (x : Value) (aes : AV) (es : List MapEntry) (i : Nat) (res : Option (Nat × Value)) : Prop :=
  (findE key aes = none ∧ res = none ∧ ∀ v y n, VR μ v y → ER P μ kt (updE key v aes) (es ++ [{ key := x, val := y, born := n }])) ∨
  (∃ v j e, findE key aes = some v ∧ res = some (i + j, e.val) ∧ es[j]? = some e ∧ VR μ v e.val ∧ e.key = x ∧
    ∀ v' y, VR μ v' y → ER P μ kt (updE key v' aes) (es.modify j fun e => { e with key := x, val := y }))

/-- A value without addresses is known by its abstract value. -/
theorem key_det {kt : TypeId} {key : AV} {x y : Value} (hk : keyFits P kt key = true) (hx : VR μ key x) (hy : VR μ key y) : x = y := by
  rcases keyFits_cases hk with ⟨k, n, hu, rfl⟩ | ⟨s, hu, rfl⟩ | ⟨q, hu, rfl⟩ | ⟨n, e, k, cs, hu, he, hs, rfl, hl, hi⟩
  · exact (show x = _ from hx).trans (show y = _ from hy).symm
  · exact (show x = _ from hx).trans (show y = _ from hy).symm
  · exact (show x = _ from hx).trans (show y = _ from hy).symm
  · obtain ⟨xs, rfl, hx1⟩ := hx
    obtain ⟨ys, rfl, hy1⟩ := hy
    have key : ∀ (cs : AV), allInts k cs = true → ∃ l, scCells cs = some l := by
      intro cs
      induction cs with
      | nil => intro _; exact ⟨[], rfl⟩
      | cons a t _ ih =>
        intro h
        obtain ⟨m, rfl, h2⟩ := allInts_cons h
        obtain ⟨l, hl⟩ := ih h2
        exact ⟨Sc.val (.int k m) :: l, by simp [scCells, hl]⟩
      | _ => intro h; simp [allInts] at h
    obtain ⟨l, hl'⟩ := key cs hi
    have e1 := LR.det hl' hx1
    have e2 := LR.det hl' hy1
    congr 1
    exact Array.toList_inj.1 (e1.trans e2.symm)

theorem found_step {kt : TypeId} {key k' v' : AV} {x : Value} {t : AV} {e : MapEntry} {r : List MapEntry} {i : Nat} {res : Option (Nat × Value)} (hk : keyFits P kt key = true) (hx : VR μ key x) (hk' : keyFits P kt k' = true) (h2 : VR μ k' e.key) (h3 : VR μ v' e.val)
    (h4 : ER P μ kt t r) (hyes : key.beq k' = true → res = some (i, e.val)) (hno : key.beq k' = false → Found P μ kt key x t r (i + 1) res) : Found P μ kt key x (.cons (.cons k' v') t) (e :: r) i res := by
  cases hb : key.beq k' with
  | true =>
    have hkk := AV.beq_eq hb
    subst hkk
    have hxe : e.key = x := key_det hk h2 hx
    refine .inr ⟨v', 0, e, by simp [findE, hb], hyes hb, rfl, h3, hxe, ?_⟩
    intro v y hv
    simp only [updE, hb, cond_true, List.modify_zero_cons]
    exact ⟨_, r, rfl, hk, hx, hv, h4⟩
  | false =>
    rcases hno hb with ⟨g1, g2, g3⟩ | ⟨v, j, e', g1, g2, g3, g4, g5, g6⟩
    · refine .inl ⟨by simp [findE, hb, g1], g2, ?_⟩
      intro v y n hv
      simp only [updE, hb, cond_false, List.cons_append]
      exact ⟨e, _, rfl, hk', h2, h3, g3 v y n hv⟩
    · refine .inr ⟨v, j + 1, e', by simp [findE, hb, g1], by rw [g2]; congr 2; omega, by simpa using g3, g4, g5, ?_⟩
      intro v'' y hv
      simp only [updE, hb, cond_false, List.modify_succ_cons]
      exact ⟨e, _, rfl, hk', h2, h3, g6 v'' y hv⟩

theorem asking_run {kt : TypeId} {key : AV} {x : Value} (hk : keyFits P kt key = true) (hx : VR μ key x) (w : World) : ∀ (aes : AV) (es : List MapEntry) (i : Nat), ER P μ kt aes es →
    ∃ res, (Instr.findAsking kt x es i).run P w = .ok res w ∧ Found P μ kt key x aes es i res
  | .nil, es, i, h => by
    have h' : es = [] := h
    subst h'
    exact ⟨none, rfl, .inl ⟨rfl, rfl, fun v y n hv => ⟨_, [], rfl, hk, hx, hv, rfl⟩⟩⟩
  | .cons (.cons k' v') t, es, i, h => by
    obtain ⟨e, r, rfl, hk', h2, h3, h4⟩ := h
    have heq : (Op.equal kt x e.key).run P w = .ok (key.beq k') w := equal_run hk hk' hx h2 9998 w
    cases hb : key.beq k' with
    | true =>
      refine ⟨some (i, e.val), by simp [Instr.findAsking, heq, hb], found_step hk hx hk' h2 h3 h4 (fun _ => rfl) (fun q => by rw [hb] at q; cases q)⟩
    | false =>
      obtain ⟨res, g1, g2⟩ := asking_run hk hx w t r (i + 1) h4
      exact ⟨res, by simp [Instr.findAsking, heq, hb, g1], found_step hk hx hk' h2 h3 h4 (fun q => by rw [hb] at q; cases q) (fun _ => g2)⟩
  | .sc _, _, _, h | .ptr .., _, _, h | .slc .., _, _, h | .map _, _, _, h | .yield _, _, _, h | .fn .., _, _, h | .iface .., _, _, h | .agg _, _, _, h | .tup _, _, _, h => h.elim
  | .cons (.sc _) _, _, _, h | .cons (.ptr ..) _, _, _, h | .cons (.slc ..) _, _, _, h | .cons (.map _) _, _, _, h | .cons (.yield _) _, _, _, h | .cons (.fn ..) _, _, _, h | .cons (.iface ..) _, _, _, h | .cons (.agg _) _, _, _, h | .cons (.tup _) _, _, _, h | .cons .nil _, _, _, h => h.elim

theorem now_run {kt : TypeId} {d : TypeDesc} {key : AV} {x : Value} (hk : keyFits P kt key = true) (hx : VR μ key x) (hs : ∀ k' y, keyFits P kt k' = true → VR μ k' y → Instr.sameNow d x y = some (key.beq k')) : ∀ (aes : AV) (es : List MapEntry) (i : Nat), ER P μ kt aes es →
    ∃ res, Instr.findNow d x es i = some res ∧ Found P μ kt key x aes es i res
  | .nil, es, i, h => by
    have h' : es = [] := h
    subst h'
    exact ⟨none, rfl, .inl ⟨rfl, rfl, fun v y n hv => ⟨_, [], rfl, hk, hx, hv, rfl⟩⟩⟩
  | .cons (.cons k' v') t, es, i, h => by
    obtain ⟨e, r, rfl, hk', h2, h3, h4⟩ := h
    have heq := hs k' e.key hk' h2
    cases hb : key.beq k' with
    | true =>
      refine ⟨some (i, e.val), by simp [Instr.findNow, heq, hb], found_step hk hx hk' h2 h3 h4 (fun _ => rfl) (fun q => by rw [hb] at q; cases q)⟩
    | false =>
      obtain ⟨res, g1, g2⟩ := now_run hk hx hs t r (i + 1) h4
      exact ⟨res, by simp [Instr.findNow, heq, hb, g1], found_step hk hx hk' h2 h3 h4 (fun q => by rw [hb] at q; cases q) (fun _ => g2)⟩
  | .sc _, _, _, h | .ptr .., _, _, h | .slc .., _, _, h | .map _, _, _, h | .yield _, _, _, h | .fn .., _, _, h | .iface .., _, _, h | .agg _, _, _, h | .tup _, _, _, h => h.elim
  | .cons (.sc _) _, _, _, h | .cons (.ptr ..) _, _, _, h | .cons (.slc ..) _, _, _, h | .cons (.map _) _, _, _, h | .cons (.yield _) _, _, _, h | .cons (.fn ..) _, _, _, h | .cons (.iface ..) _, _, _, h | .cons (.agg _) _, _, _, h | .cons (.tup _) _, _, _, h | .cons .nil _, _, _, h => h.elim

theorem findKey_run {kt : TypeId} {key : AV} {x : Value} (hk : keyFits P kt key = true) (hx : VR μ key x) (w : World) {aes : AV} {es : List MapEntry} (h : ER P μ kt aes es) :
    ∃ res, (Instr.findKey kt x es).run P w = .ok res w ∧ Found P μ kt key x aes es 0 res := by
  rcases keyFits_cases hk with ⟨k, n, hu, rfl⟩ | ⟨s, hu, rfl⟩ | ⟨q, hu, rfl⟩ | ⟨n, e, k, cs, hu, he, hs, rfl, hl, hi⟩
  · have hx' : x = .int k n := hx
    obtain ⟨res, g1, g2⟩ := now_run (d := .int k) hk hx (by
      intro k' y hk' hy
      rcases keyFits_cases hk' with ⟨j, m, hu', rfl⟩ | ⟨s, hu', rfl⟩ | ⟨q, hu', rfl⟩ | ⟨n, e, k, cs, hu', _⟩ <;> rw [hu] at hu' <;> simp at hu'
      have hy' : y = .int j m := hy
      subst hu'; subst hx'; subst hy'
      simp [Instr.sameNow, AV.beq, Sc.beq, beqK_self, beqI_iff]) aes es 0 h
    exact ⟨res, Go.MapKept.run_findKey hu g1, g2⟩
  · have hx' : x = .string s := hx
    obtain ⟨res, g1, g2⟩ := now_run (d := .string) hk hx (by
      intro k' y hk' hy
      rcases keyFits_cases hk' with ⟨j, m, hu', rfl⟩ | ⟨s', hu', rfl⟩ | ⟨q, hu', rfl⟩ | ⟨n, e, k, cs, hu', _⟩ <;> rw [hu] at hu' <;> simp at hu'
      have hy' : y = .string s' := hy
      subst hx'; subst hy'
      simp [Instr.sameNow, AV.beq, Sc.beq, beqStr_iff]) aes es 0 h
    exact ⟨res, Go.MapKept.run_findKey hu g1, g2⟩
  · have hx' : x = .bool q := hx
    obtain ⟨res, g1, g2⟩ := now_run (d := .bool) hk hx (by
      intro k' y hk' hy
      rcases keyFits_cases hk' with ⟨j, m, hu', rfl⟩ | ⟨s, hu', rfl⟩ | ⟨q', hu', rfl⟩ | ⟨n, e, k, cs, hu', _⟩ <;> rw [hu] at hu' <;> simp at hu'
      have hy' : y = .bool q' := hy
      subst hx'; subst hy'
      simp [Instr.sameNow, AV.beq, Sc.beq, beqB_iff]) aes es 0 h
    exact ⟨res, Go.MapKept.run_findKey hu g1, g2⟩
  · obtain ⟨res, g1, g2⟩ := asking_run hk hx w aes es 0 h
    refine ⟨res, ?_, g2⟩
    simp only [Instr.findKey, Sem.run_bind, run_underlying hu, Result.andThen_ok]
    cases es with
    | nil => simp only [Instr.findNow, Sem.run_pure]; exact g1
    | cons e' r => 
      obtain ⟨xs, rfl, _⟩ := hx
      simp only [Instr.findNow, Instr.sameNow]; exact g1

theorem sameBits_self {kt : TypeId} {key : AV} {x : Value} (hk : keyFits P kt key = true) (hx : VR μ key x) : Instr.sameBits 10000 x x = true := by
  rcases keyFits_cases hk with ⟨k, n, hu, rfl⟩ | ⟨s, hu, rfl⟩ | ⟨q, hu, rfl⟩ | ⟨n, e, k, cs, hu, he, hs, rfl, hl, hi⟩
  · have hx' : x = .int k n := hx
    subst hx'; simp [Instr.sameBits]
  · have hx' : x = .string s := hx
    subst hx'
    have : (s == s) = true := by rw [← beqStr_iff]; exact beqBytes_self _
    simp [Instr.sameBits, this]
  · have hx' : x = .bool q := hx
    subst hx'; simp [Instr.sameBits]
  · obtain ⟨xs, rfl, hx1⟩ := hx
    replace hx1 : LR μ cs xs.toList := hx1
    have : ∀ d, Instr.sameBits (d + 1) (.agg xs) (.agg xs) = true := by
      intro d
      simp only [Instr.sameBits, beq_self_eq_true, Bool.true_and, List.all_eq_true]
      rintro ⟨a, b⟩ hab
      obtain ⟨i, hi1, hi2⟩ := List.getElem_of_mem hab
      rw [List.getElem_zip] at hi2
      simp only [Prod.mk.injEq] at hi2
      have hlt : i < cs.len := by rw [← hx1.len]; simp at hi1; simpa using hi1
      obtain ⟨m, hm⟩ := int_at hx1 hi hlt
      have e1 : a = .int k m := by
        rw [← hi2.1]
        have := (List.getElem?_eq_some_iff.1 hm).2
        exact this
      have e2 : b = .int k m := by rw [← hi2.2, hi2.1, e1]
      subst e1; rw [e2]
      cases d <;> simp [Instr.sameBits]
    exact this 9999

end
end Go.Eng
