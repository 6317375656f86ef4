/-
  Maps: look-ups and stores of the abstract machine are those of the model. The operations that make an object, and the barriers that call no 
  Conditions: see each statement.
-/
import Derived.Test.YtepakfjilnpodaaGreatDoorPAAC
import Derived.MapKept
import Derived.Laws.Tables
import Derived.Laws.MakeOwn
namespace Go.Eng
open Go.RowKit

section
variable {P : Program} {B : Nat} {w0 : World} {G : Sett} {μ : Mu} {H : AH} {w : World}

theorem int_at {k : IntKind} : ∀ {cs : AV} {xs : List Value} {i : Nat}, LR μ cs xs → allInts k cs = true → i < cs.len → ∃ n, xs[i]? = some (.int k n)
  | .nil, xs, i, _, _, h => by simp [AV.len] at h
  | .cons h t, xs, i, hL, hi, hlt => by
    obtain ⟨n, rfl, h2⟩ := allInts_cons hi
    obtain ⟨x, r, rfl, h3, h4⟩ := hL
    have hx : x = .int k n := h3
    cases i with
    | zero => exact ⟨n, by simp [hx]⟩
    | succ i =>
      obtain ⟨m, hm⟩ := int_at h4 h2 (by simp [AV.len] at hlt; omega : i < t.len)
      exact ⟨m, by simpa using hm⟩
  | .sc _, _, _, h, _, _ | .ptr .., _, _, h, _, _ | .slc .., _, _, h, _, _ | .map _, _, _, h, _, _ | .yield _, _, _, h, _, _ | .fn .., _, _, h, _, _ | .iface .., _, _, h, _, _ | .agg _, _, _, h, _, _ | .tup _, _, _, h, _, _ => h.elim

theorem checkKey_run {kt : TypeId} {key : AV} {x : Value} (hk : keyFits P kt key = true) (hx : VR μ key x) (em : Bool) (w : World) : (Instr.checkKey em 10000 kt x).run P w = .ok () w := by
  rcases keyFits_cases hk with ⟨k, n, hu, rfl⟩ | ⟨s, hu, rfl⟩ | ⟨q, hu, rfl⟩ | ⟨n, e, k, cs, hu, he, hs, rfl, hl, hi⟩
  · have hx' : x = .int k n := hx
    subst hx'
    exact Go.MapKept.run_checkKey hu (by simp [Go.MapKept.IsKey]) em 9999
  · have hx' : x = .string s := hx
    subst hx'
    exact Go.MapKept.run_checkKey hu (by simp [Go.MapKept.IsKey]) em 9999
  · have hx' : x = .bool q := hx
    subst hx'
    exact Go.MapKept.run_checkKey hu (by simp [Go.MapKept.IsKey]) em 9999
  · obtain ⟨xs, rfl, hx1⟩ := hx
    have hstep : ∀ d, (Instr.checkKey em (d + 2) kt (.agg xs)).run P w = .ok () w := by
      intro d
      rw [Instr.checkKey]
      simp only [Sem.run_bind, run_underlying hu, Result.andThen_ok, Std.Legacy.Range.forIn_eq_forIn_range', Std.Legacy.Range.size, Nat.sub_zero, Nat.add_sub_cancel, Nat.div_one]
      have hr : ∀ i ∈ List.range' 0 n 1, i < cs.len := fun i q => by have := (List.mem_range'_1.1 q).2; omega
      generalize List.range' 0 n 1 = is at hr
      induction is with
      | nil => simp
      | cons i r ih =>
        obtain ⟨m, hm⟩ := int_at hx1 hi (hr i (by simp))
        have hm' : xs[i]? = some (.int k m) := by simpa using hm
        have p1 : (part e xs (i * 1)).run P w = .ok (.int k m) w := by simp [part, isAgg, run_underlying he, hm']
        have p2 : (Instr.checkKey em (d + 1) e (.int k m)).run P w = .ok () w := Go.MapKept.run_checkKey he (by simp [Go.MapKept.IsKey]) em d
        simp only [List.forIn_cons, Sem.run_bind, run_size hs, p1, p2, Result.andThen_ok, Sem.run_pure]
        exact ih (fun j hj => hr j (by simp [hj]))
    exact hstep 9998

/-- What a search for a key finds. -/
def Found (P : Program) (μ : Mu) (kt : TypeId) (key : AV) (x : Value) (aes : AV) (es : List MapEntry) (i : Nat) (res : Option (Nat × Value)) : Prop :=
  (findE key aes = none ∧ res = none ∧ ∀ v y n, VR μ v y → ER P μ kt (updE key v aes) (es ++ [{ key := x, val := y, born := n }])) ∨
  (∃ v j e, findE key aes = some v ∧ res = some (i + j, e.val) ∧ es[j]? = some e ∧ VR μ v e.val ∧ e.key = x ∧
    ∀ v' y, VR μ v' y → ER P μ kt (updE key v' aes) (es.modify j fun e => { e with key := x, val := y }))

/-- A value without addresses is known by its abstract value. -/
theorem key_det {kt : TypeId} {key : AV} {x y : Value} (hk : keyFits P kt key = true) (hx : VR μ key x) (hy : VR μ key y) : x = y := by
  rcases keyFits_cases hk with ⟨k, n, hu, rfl⟩ | ⟨s, hu, rfl⟩ | ⟨q, hu, rfl⟩ | ⟨n, e, k, cs, hu, he, hs, rfl, hl, hi⟩
  · exact (show x = _ from hx).trans (show y = _ from hy).symm
  · exact (show x = _ from hx).trans (show y = _ from hy).symm
  · exact (show x = _ from hx).trans (show y = _ from hy).symm
  · obtain ⟨xs, rfl, hx1⟩ := hx
    obtain ⟨ys, rfl, hy1⟩ := hy
    have key : ∀ (cs : AV), allInts k cs = true → ∃ l, scCells cs = some l := by
      intro cs
      induction cs with
      | nil => intro _; exact ⟨[], rfl⟩
      | cons a t _ ih =>
        intro h
        obtain ⟨m, rfl, h2⟩ := allInts_cons h
        obtain ⟨l, hl⟩ := ih h2
        exact ⟨Sc.val (.int k m) :: l, by simp [scCells, hl]⟩
      | _ => intro h; simp [allInts] at h
    obtain ⟨l, hl'⟩ := key cs hi
    have e1 := LR.det hl' hx1
    have e2 := LR.det hl' hy1
    congr 1
    exact Array.toList_inj.1 (e1.trans e2.symm)

theorem found_step {kt : TypeId} {key k' v' : AV} {x : Value} {t : AV} {e : MapEntry} {r : List MapEntry} {i : Nat} {res : Option (Nat × Value)} (hk : keyFits P kt key = true) (hx : VR μ key x) (hk' : keyFits P kt k' = true) (h2 : VR μ k' e.key) (h3 : VR μ v' e.val)
    (h4 : ER P μ kt t r) (hyes : key.beq k' = true → res = some (i, e.val)) (hno : key.beq k' = false → Found P μ kt key x t r (i + 1) res) : Found P μ kt key x (.cons (.cons k' v') t) (e :: r) i res := by
  cases hb : key.beq k' with
  | true =>
    have hkk := AV.beq_eq hb
    subst hkk
    have hxe : e.key = x := key_det hk h2 hx
    refine .inr ⟨v', 0, e, by simp [findE, hb], hyes hb, rfl, h3, hxe, ?_⟩
    intro v y hv
    simp only [updE, hb, cond_true, List.modify_zero_cons]
    exact ⟨_, r, rfl, hk, hx, hv, h4⟩
  | false =>
    rcases hno hb with ⟨g1, g2, g3⟩ | ⟨v, j, e', g1, g2, g3, g4, g5, g6⟩
    · refine .inl ⟨by simp [findE, hb, g1], g2, ?_⟩
      intro v y n hv
      simp only [updE, hb, cond_false, List.cons_append]
      exact ⟨e, _, rfl, hk', h2, h3, g3 v y n hv⟩
    · refine .inr ⟨v, j + 1, e', by simp [findE, hb, g1], by rw [g2]; congr 2; omega, by simpa using g3, g4, g5, ?_⟩
      intro v'' y hv
      simp only [updE, hb, cond_false, List.modify_succ_cons]
      exact ⟨e, _, rfl, hk', h2, h3, g6 v'' y hv⟩

theorem asking_run {kt : TypeId} {key : AV} {x : Value} (hk : keyFits P kt key = true) (hx : VR μ key x) (w : World) : ∀ (aes : AV) (es : List MapEntry) (i : Nat), ER P μ kt aes es →
    ∃ res, (Instr.findAsking kt x es i).run P w = .ok res w ∧ Found P μ kt key x aes es i res
  | .nil, es, i, h => by
    have h' : es = [] := h
    subst h'
    exact ⟨none, rfl, .inl ⟨rfl, rfl, fun v y n hv => ⟨_, [], rfl, hk, hx, hv, rfl⟩⟩⟩
  | .cons (.cons k' v') t, es, i, h => by
    obtain ⟨e, r, rfl, hk', h2, h3, h4⟩ := h
    have heq : (Op.equal kt x e.key).run P w = .ok (key.beq k') w := equal_run hk hk' hx h2 9998 w
    cases hb : key.beq k' with
    | true =>
      refine ⟨some (i, e.val), by simp [Instr.findAsking, heq, hb], found_step hk hx hk' h2 h3 h4 (fun _ => rfl) (fun q => by rw [hb] at q; cases q)⟩
    | false =>
      obtain ⟨res, g1, g2⟩ := asking_run hk hx w t r (i + 1) h4
      exact ⟨res, by simp [Instr.findAsking, heq, hb, g1], found_step hk hx hk' h2 h3 h4 (fun q => by rw [hb] at q; cases q) (fun _ => g2)⟩
  | .sc _, _, _, h | .ptr .., _, _, h | .slc .., _, _, h | .map _, _, _, h | .yield _, _, _, h | .fn .., _, _, h | .iface .., _, _, h | .agg _, _, _, h | .tup _, _, _, h => h.elim
  | .cons (.sc _) _, _, _, h | .cons (.ptr ..) _, _, _, h | .cons (.slc ..) _, _, _, h | .cons (.map _) _, _, _, h | .cons (.yield _) _, _, _, h | .cons (.fn ..) _, _, _, h | .cons (.iface ..) _, _, _, h | .cons (.agg _) _, _, _, h | .cons (.tup _) _, _, _, h | .cons .nil _, _, _, h => h.elim

theorem now_run {kt : TypeId} {d : TypeDesc} {key : AV} {x : Value} (hk : keyFits P kt key = true) (hx : VR μ key x) (hs : ∀ k' y, keyFits P kt k' = true → VR μ k' y → Instr.sameNow d x y = some (key.beq k')) : ∀ (aes : AV) (es : List MapEntry) (i : Nat), ER P μ kt aes es →
    ∃ res, Instr.findNow d x es i = some res ∧ Found P μ kt key x aes es i res
  | .nil, es, i, h => by
    have h' : es = [] := h
    subst h'
    exact ⟨none, rfl, .inl ⟨rfl, rfl, fun v y n hv => ⟨_, [], rfl, hk, hx, hv, rfl⟩⟩⟩
  | .cons (.cons k' v') t, es, i, h => by
    obtain ⟨e, r, rfl, hk', h2, h3, h4⟩ := h
    have heq := hs k' e.key hk' h2
    cases hb : key.beq k' with
    | true =>
      refine ⟨some (i, e.val), by simp [Instr.findNow, heq, hb], found_step hk hx hk' h2 h3 h4 (fun _ => rfl) (fun q => by rw [hb] at q; cases q)⟩
    | false =>
      obtain ⟨res, g1, g2⟩ := now_run hk hx hs t r (i + 1) h4
      exact ⟨res, by simp [Instr.findNow, heq, hb, g1], found_step hk hx hk' h2 h3 h4 (fun q => by rw [hb] at q; cases q) (fun _ => g2)⟩
  | .sc _, _, _, h | .ptr .., _, _, h | .slc .., _, _, h | .map _, _, _, h | .yield _, _, _, h | .fn .., _, _, h | .iface .., _, _, h | .agg _, _, _, h | .tup _, _, _, h => h.elim
  | .cons (.sc _) _, _, _, h | .cons (.ptr ..) _, _, _, h | .cons (.slc ..) _, _, _, h | .cons (.map _) _, _, _, h | .cons (.yield _) _, _, _, h | .cons (.fn ..) _, _, _, h | .cons (.iface ..) _, _, _, h | .cons (.agg _) _, _, _, h | .cons (.tup _) _, _, _, h | .cons .nil _, _, _, h => h.elim

theorem findKey_run {kt : TypeId} {key : AV} {x : Value} (hk : keyFits P kt key = true) (hx : VR μ key x) (w : World) {aes : AV} {es : List MapEntry} (h : ER P μ kt aes es) :
    ∃ res, (Instr.findKey kt x es).run P w = .ok res w ∧ Found P μ kt key x aes es 0 res := by
  rcases keyFits_cases hk with ⟨k, n, hu, rfl⟩ | ⟨s, hu, rfl⟩ | ⟨q, hu, rfl⟩ | ⟨n, e, k, cs, hu, he, hs, rfl, hl, hi⟩
  · have hx' : x = .int k n := hx
    obtain ⟨res, g1, g2⟩ := now_run (d := .int k) hk hx (by
      intro k' y hk' hy
      rcases keyFits_cases hk' with ⟨j, m, hu', rfl⟩ | ⟨s, hu', rfl⟩ | ⟨q, hu', rfl⟩ | ⟨n, e, k, cs, hu', _⟩ <;> rw [hu] at hu' <;> simp at hu'
      have hy' : y = .int j m := hy
      subst hu'; subst hx'; subst hy'
      simp [Instr.sameNow, AV.beq, Sc.beq, beqK_self, beqI_iff]) aes es 0 h
    exact ⟨res, Go.MapKept.run_findKey hu g1, g2⟩
  · have hx' : x = .string s := hx
    obtain ⟨res, g1, g2⟩ := now_run (d := .string) hk hx (by
      intro k' y hk' hy
      rcases keyFits_cases hk' with ⟨j, m, hu', rfl⟩ | ⟨s', hu', rfl⟩ | ⟨q, hu', rfl⟩ | ⟨n, e, k, cs, hu', _⟩ <;> rw [hu] at hu' <;> simp at hu'
      have hy' : y = .string s' := hy
      subst hx'; subst hy'
      simp [Instr.sameNow, AV.beq, Sc.beq, beqStr_iff]) aes es 0 h
    exact ⟨res, Go.MapKept.run_findKey hu g1, g2⟩
  · have hx' : x = .bool q := hx
    obtain ⟨res, g1, g2⟩ := now_run (d := .bool) hk hx (by
      intro k' y hk' hy
      rcases keyFits_cases hk' with ⟨j, m, hu', rfl⟩ | ⟨s, hu', rfl⟩ | ⟨q', hu', rfl⟩ | ⟨n, e, k, cs, hu', _⟩ <;> rw [hu] at hu' <;> simp at hu'
      have hy' : y = .bool q' := hy
      subst hx'; subst hy'
      simp [Instr.sameNow, AV.beq, Sc.beq, beqB_iff]) aes es 0 h
    exact ⟨res, Go.MapKept.run_findKey hu g1, g2⟩
  · obtain ⟨res, g1, g2⟩ := asking_run hk hx w aes es 0 h
    refine ⟨res, ?_, g2⟩
    simp only [Instr.findKey, Sem.run_bind, run_underlying hu, Result.andThen_ok]
    cases es with
    | nil => simp only [Instr.findNow, Sem.run_pure]; exact g1
    | cons e' r => 
      obtain ⟨xs, rfl, _⟩ := hx
      simp only [Instr.findNow, Instr.sameNow]; exact g1

theorem sameBits_self {kt : TypeId} {key : AV} {x : Value} (hk : keyFits P kt key = true) (hx : VR μ key x) : Instr.sameBits 10000 x x = true := by
  rcases keyFits_cases hk with ⟨k, n, hu, rfl⟩ | ⟨s, hu, rfl⟩ | ⟨q, hu, rfl⟩ | ⟨n, e, k, cs, hu, he, hs, rfl, hl, hi⟩
  · have hx' : x = .int k n := hx
    subst hx'; simp [Instr.sameBits]
  · have hx' : x = .string s := hx
    subst hx'
    have : (s == s) = true := by rw [← beqStr_iff]; exact beqBytes_self _
    simp [Instr.sameBits, this]
  · have hx' : x = .bool q := hx
    subst hx'; simp [Instr.sameBits]
  · obtain ⟨xs, rfl, hx1⟩ := hx
    replace hx1 : LR μ cs xs.toList := hx1
    have : ∀ d, Instr.sameBits (d + 1) (.agg xs) (.agg xs) = true := by
      intro d
      simp only [Instr.sameBits, beq_self_eq_true, Bool.true_and, List.all_eq_true]
      rintro ⟨a, b⟩ hab
      obtain ⟨i, hi1, hi2⟩ := List.getElem_of_mem hab
      rw [List.getElem_zip] at hi2
      simp only [Prod.mk.injEq] at hi2
      have hlt : i < cs.len := by rw [← hx1.len]; simp at hi1; simpa using hi1
      obtain ⟨m, hm⟩ := int_at hx1 hi hlt
      have e1 : a = .int k m := by
        rw [← hi2.1]
        have := (List.getElem?_eq_some_iff.1 hm).2
        exact this
      have e2 : b = .int k m := by rw [← hi2.2, hi2.1, e1]
      subst e1; rw [e2]
      cases d <;> simp [Instr.sameBits]
    exact this 9999

end

section
variable {P : Program} {B : Nat} {w0 : World} {G : Sett} {μ : Mu} {H : AH} {w : World}

theorem allOf_LR {ρ : Env} {ρc : Operand → Value} : ∀ {l : List Operand} {v : AV}, (∀ x ∈ l, ∀ v, ρ x = some v → VR μ v (ρc x)) → allOf ρ l = some v → LR μ v (l.map ρc)
  | [], v, _, h => by simp [allOf] at h; subst h; rfl
  | x :: r, v, hρ, h => by
    simp only [allOf] at h
    split at h
    · rename_i u t hu ht
      simp at h; subst h
      exact LR.cons (hρ x (by simp) u hu) (allOf_LR (fun y hy => hρ y (by simp [hy])) ht)
    · simp at h

theorem lookup_sound (h : Rep P B w0 G μ H w) {t kt et : TypeId} {m key z v : AV} {x y : Value} {okk : Bool} {es : AV} (hu : P.underlying t = some (.map kt et)) (hk : keyFits P kt key = true) (he : entriesOf H kt m = some es) (hz : zeroOf P et = some z)
    (hx : VR μ m x) (hy : VR μ key y)
    (hv : (match findE key es with
      | some v => bif okk then some (.tup (.cons v (.cons (.sc (.bool true)) .nil))) else some v
      | none => bif okk then some (.tup (.cons z (.cons (.sc (.bool false)) .nil))) else some z) = some v) : ∃ u, (Instr.lookup t x y okk).run P w = .ok u w ∧ VR μ v u := by
  obtain ⟨zi, zx, hz1, hz2, hz3, hz4⟩ := zero_of μ hz
  have hent : (x = .map none ∧ es = .nil) ∨ ∃ (b : Nat) (en : Array MapEntry) (cl : Nat), x = .map (some b) ∧ w.heap[b]? = some (.map en cl) ∧ ER P μ kt es en.toList := by
    unfold entriesOf at he
    split at he
    · simp at he; subst he
      exact .inl ⟨hx, rfl⟩
    · rename_i i
      obtain ⟨b, N, hm, rfl⟩ := hx
      split at he
      · rename_i kt' es' ho
        cases hb : Nat.beq kt kt' with
        | false => rw [hb] at he; simp at he
        | true =>
          rw [hb] at he
          simp at he; subst he
          have := (beq_iff _ _).1 hb
          subst this
          obtain ⟨_, en, cl, h2, h3⟩ := h.map _ _ _ _ _ ho hm
          exact .inr ⟨b, en, cl, rfl, h2, h3⟩
      · simp at he
    · simp at he
  rcases hent with ⟨rfl, rfl⟩ | ⟨b, en, cl, rfl, h2, h3⟩
  · obtain ⟨res, hf, hfound⟩ := findKey_run hk hy w (aes := .nil) (es := []) rfl
    have hck := checkKey_run hk hy true w
    rcases hfound with ⟨g1, rfl, _⟩ | ⟨u, j, e, g1, rfl, g3, g4, _⟩
    · rw [g1] at hv
      cases okk with
      | true => simp at hv; subst hv; exact ⟨.tuple #[zx, .bool false], by simp [Instr.lookup, run_underlying hu, hck, hf, hz4], _, rfl, LR.cons hz3 (LR.cons rfl rfl)⟩
      | false => simp at hv; subst hv; exact ⟨zx, by simp [Instr.lookup, run_underlying hu, hck, hf, hz4], hz3⟩
    · rw [g1] at hv
      cases okk with
      | true => simp at hv; subst hv; exact ⟨.tuple #[e.val, .bool true], by simp [Instr.lookup, run_underlying hu, hck, hf], _, rfl, LR.cons g4 (LR.cons rfl rfl)⟩
      | false => simp at hv; subst hv; exact ⟨e.val, by simp [Instr.lookup, run_underlying hu, hck, hf], g4⟩
  · have hg : (getObj b).run P w = .ok (.map en cl) w := by simp [getObj, Sem.run, h2]
    obtain ⟨res, hf, hfound⟩ := findKey_run hk hy w h3
    have hck := checkKey_run hk hy en.isEmpty w
    rcases hfound with ⟨g1, rfl, _⟩ | ⟨u, j, e, g1, rfl, g3, g4, _⟩
    · rw [g1] at hv
      cases okk with
      | true => simp at hv; subst hv; exact ⟨.tuple #[zx, .bool false], by simp [Instr.lookup, run_underlying hu, hg, hck, hf, hz4], _, rfl, LR.cons hz3 (LR.cons rfl rfl)⟩
      | false => simp at hv; subst hv; exact ⟨zx, by simp [Instr.lookup, run_underlying hu, hg, hck, hf, hz4], hz3⟩
    · rw [g1] at hv
      cases okk with
      | true => simp at hv; subst hv; exact ⟨.tuple #[e.val, .bool true], by simp [Instr.lookup, run_underlying hu, hg, hck, hf], _, rfl, LR.cons g4 (LR.cons rfl rfl)⟩
      | false => simp at hv; subst hv; exact ⟨e.val, by simp [Instr.lookup, run_underlying hu, hg, hck, hf], g4⟩

theorem len_sound (h : Rep P B w0 G μ H w) {t ty : TypeId} {v u : AV} {x : Value} (hl : lenV P H t v = some u) (hx : VR μ v x) : ∃ y, (Builtin.len_ #[t] ty #[x]).run P w = .ok y w ∧ VR μ u y := by
  unfold lenV at hl
  split at hl
  · rename_i e i o len cm ex esz hu
    obtain ⟨b, N, c, hm, rfl, _⟩ := hx
    simp at hl; subst hl
    exact ⟨goInt len, by simp [Builtin.len_, run_underlying hu], rfl⟩
  · rename_i e hu
    have hx' : x = .slice none 0 0 := hx
    subst hx'
    simp at hl; subst hl
    exact ⟨goInt 0, by simp [Builtin.len_, run_underlying hu], rfl⟩
  · rename_i s hu
    have hx' : x = .string s := hx
    subst hx'
    simp at hl; subst hl
    exact ⟨goInt s.size, by simp [Builtin.len_, run_underlying hu], rfl⟩
  · rename_i n e hu
    simp at hl; subst hl
    exact ⟨goInt n, by simp [Builtin.len_, run_underlying hu], rfl⟩
  · rename_i a e hu
    have hx' : x = .map none := hx
    subst hx'
    simp at hl; subst hl
    exact ⟨goInt 0, by simp [Builtin.len_, run_underlying hu], rfl⟩
  · rename_i a e i hu
    obtain ⟨b, N, hm, rfl⟩ := hx
    split at hl
    · rename_i kt es ho
      simp at hl; subst hl
      obtain ⟨_, en, cl, h2, h3⟩ := h.map _ _ _ _ _ ho hm
      have hlen : ∀ {aes : AV} {l : List MapEntry}, ER P μ kt aes l → l.length = aes.len := by
        intro aes
        induction aes with
        | nil => intro l q; have q' : l = [] := q; subst q'; rfl
        | cons p t _ ih =>
          intro l q
          cases p with
          | cons k v => obtain ⟨e, r, rfl, _, _, _, q'⟩ := q; simp [AV.len, ih q']
          | _ => exact q.elim
        | _ => intro l q; exact q.elim
      have := hlen h3
      exact ⟨goInt en.size, by simp [Builtin.len_, run_underlying hu, getObj, Sem.run, h2], by show goInt en.size = _; simp [goInt, Sc.val, ← this]⟩
    · simp at hl
  · simp at hl

theorem quiet_sound (h : Rep P B w0 G μ H w) {ρ : Env} {ρc : Operand → Value} {o : Oper} (hρ : ∀ x ∈ o.op.operands, ∀ v, ρ x = some v → VR μ v (ρc x)) {v : AV} (hq : quietOf P ρ o.op H = some v) :
    ∃ x, (execOp ρc o).run P w = .ok (.value x) w ∧ VR μ v x := by
  obtain ⟨dst, op, type, pos, after, guard⟩ := o
  simp only at hρ hq
  have val : ∀ {s : Sem Value} {y : Value}, s.run P w = .ok y w → (do pure (Next.value (← s)) : Sem Next).run P w = .ok (.value y) w := run_val
  cases op with
  | move x =>
    exact ⟨ρc x, rfl, hρ x (by simp [Op.operands]) v hq⟩
  | assign x => exact ⟨ρc x, rfl, hρ x (by simp [Op.operands]) v hq⟩
  | pick c a b =>
    simp only [quietOf] at hq
    split at hq
    · rename_i hc
      have h1 : ρc c = .bool true := hρ c (by simp [Op.operands]) _ hc
      exact ⟨ρc a, by simp [execOp, h1, asBool], hρ a (by simp [Op.operands]) v hq⟩
    · rename_i hc
      have h1 : ρc c = .bool false := hρ c (by simp [Op.operands]) _ hc
      exact ⟨ρc b, by simp [execOp, h1, asBool], hρ b (by simp [Op.operands]) v hq⟩
    · simp at hq
  | load t a =>
    simp only [quietOf] at hq
    split at hq
    · rename_i i off n ha hg hs
      simp only [Option.map_eq_some_iff] at hq
      obtain ⟨cs, hc, rfl⟩ := hq
      obtain ⟨y, h1, h2⟩ := load_agg h hg hs (hρ a (by simp [Op.operands]) _ ha) hc
      exact ⟨y, val h1, h2⟩
    · rename_i i off n ha hg hs
      split at hq
      · rename_i u r hc
        simp at hq; subst hq
        obtain ⟨y, h1, h2⟩ := load_one h hg (hρ a (by simp [Op.operands]) _ ha) hc
        exact ⟨y, val h1, h2⟩
      · simp at hq
    · simp at hq
  | nilCheck x =>
    simp only [quietOf] at hq
    split at hq
    · rename_i i off hx
      simp at hq; subst hq
      have h1 := hρ x (by simp [Op.operands]) _ hx
      obtain ⟨b, N, hm, hc⟩ := h1
      exact ⟨ρc x, by simp [execOp, hc], b, N, hm, hc⟩
    · rename_i f a b hx
      simp at hq; subst hq
      have h1 := hρ x (by simp [Op.operands]) _ hx
      obtain ⟨xs, ys, hc, hm⟩ := h1
      exact ⟨ρc x, by simp [execOp, hc], xs, ys, hc, hm⟩
    · simp at hq
  | binOp op t x y yt =>
    simp only [quietOf] at hq
    split at hq
    · rename_i a b ha hb
      obtain ⟨z, h1, h2⟩ := bin_sound (ox := x) (oy := y) hq (hρ x (by simp [Op.operands]) _ ha) (hρ y (by simp [Op.operands]) _ hb) w
      exact ⟨z, val h1, h2⟩
    · simp at hq
  | unOp op t x =>
    simp only [quietOf] at hq
    split at hq
    · rename_i s hx
      have h1 : ρc x = s.val := hρ x (by simp [Op.operands]) _ hx
      obtain ⟨z, h2, h3⟩ := scalar_run (w := w) μ hq
      exact ⟨z, val (by rw [h1]; exact h2), h3⟩
    · simp at hq
  | convert s d x =>
    simp only [quietOf] at hq
    split at hq
    · rename_i j n hx
      have h1 : ρc x = .int j n := hρ x (by simp [Op.operands]) _ hx
      obtain ⟨z, h2, h3⟩ := scalar_run (w := w) μ hq
      exact ⟨z, val (by rw [h1]; exact h2), h3⟩
    · simp at hq
  | makeInterface t x =>
    simp only [quietOf] at hq
    split at hq
    · simp at hq
    · rename_i u d hni hx hu
      simp at hq; subst hq
      refine ⟨.iface t (ρc x), val ?_, _, rfl, hρ x (by simp [Op.operands]) _ hx⟩
      simp only [Instr.makeInterface, Sem.run_bind, run_underlying hu, Result.andThen_ok]
      cases d <;> first | rfl | exact (hni _ rfl).elim
    · simp at hq
  | makeFunc fn fs cs =>
    cases fn with
    | func f =>
      simp only [quietOf] at hq
      split at hq
      · rename_i a b ha hb
        simp at hq; subst hq
        refine ⟨.func (.func f) (fs.map ρc) (cs.map ρc), by simp [execOp, Instr.makeFunc], _, _, rfl, ?_, ?_⟩
        · have := allOf_LR (fun x hx => hρ x (by simp [Op.operands]; exact .inl (by simpa using hx))) ha
          simpa [LR] using this
        · have := allOf_LR (fun x hx => hρ x (by simp [Op.operands]; exact .inr (by simpa using hx))) hb
          simpa [LR] using this
      · simp at hq
    | _ => simp [quietOf] at hq
  | build t parts =>
    have hp : ∀ p ∈ parts.toList, ∀ v, ρ p.2 = some v → VR μ v (ρc p.2) := by
      intro p hp
      exact hρ p.2 (by simp only [Op.operands, List.mem_toArray, List.mem_map]; exact ⟨p, hp, rfl⟩)
    have hmap : (parts.map fun (i, x) => (i, ρc x)).toList = parts.toList.map fun (p : Nat × Operand) => (p.1, ρc p.2) := by simp
    simp only [quietOf] at hq
    split at hq
    · rename_i z fields hz hu
      split at hq
      · rename_i places hpl
        simp only [Option.map_eq_some_iff] at hq
        obtain ⟨out, hfill, rfl⟩ := hq
        obtain ⟨zi, zx, hz1, hz2, hz3, hz4⟩ := zero_of μ hz
        obtain ⟨zs, rfl, hzs⟩ := hz3
        obtain ⟨cells', h1, h2⟩ := fill_sound parts.toList z out zs hp hzs hfill
        refine ⟨.agg cells', val (run_build w t _ cells' ?_), _, rfl, h2⟩
        simp only [Program.built, hz1, hu, hz2, hpl, Value.cells, hmap]
        exact h1
      · simp at hq
    · rename_i z n e hz hu
      split at hq
      · rename_i sz hs
        simp only [Option.map_eq_some_iff] at hq
        obtain ⟨out, hfill, rfl⟩ := hq
        obtain ⟨zi, zx, hz1, hz2, hz3, hz4⟩ := zero_of μ hz
        obtain ⟨zs, rfl, hzs⟩ := hz3
        obtain ⟨cells', h1, h2⟩ := fill_sound parts.toList z out zs hp hzs hfill
        refine ⟨.agg cells', val ?_, _, rfl, h2⟩
        simp only [Instr.build, Sem.run_bind, hz4, run_underlying hu, Result.andThen_ok, run_size hs, Value.cells, hmap, h1, Sem.run_pure]
      · simp at hq
    · simp at hq
  | slice t x lo hi mx =>
    simp only [quietOf] at hq
    split at hq
    · rename_i u hx
      have mem : ∀ {oo : Option Operand} (hsub : ∀ y, oo = some y → y ∈ (Op.slice t x lo hi mx).operands), (∀ v, oo.map ρ = some (some v) → ∃ z, oo.map ρc = some z ∧ VR μ v z) ∧ (oo.map ρ = none → oo.map ρc = none) := by
        intro oo hsub
        cases oo with
        | none => exact ⟨by simp, by simp⟩
        | some y => exact ⟨fun v hv => ⟨ρc y, rfl, hρ y (hsub y rfl) v (by simpa using hv)⟩, by simp⟩
      have m1 := mem (oo := lo) (by intro y hy; simp [Op.operands, hy])
      have m2 := mem (oo := hi) (by intro y hy; simp [Op.operands, hy])
      have m3 := mem (oo := mx) (by intro y hy; simp [Op.operands, hy])
      obtain ⟨y, h1, h2⟩ := slice_sound h hq (hρ x (by simp [Op.operands]) _ hx) m1.1 m1.2 m2.1 m2.2 m3.1 m3.2
      exact ⟨y, val h1, h2⟩
    · simp at hq
  | fieldAddr s x f =>
    simp only [quietOf] at hq
    split at hq
    · rename_i i off fields hx hu
      split at hq
      · rename_i fd hf
        split at hq
        · rename_i n hs
          cases hb : Nat.beq n 0 with
          | true => rw [hb] at hq; simp at hq
          | false =>
            rw [hb] at hq
            have hb := (beq_false _ _).1 hb
            simp at hq; subst hq
            obtain ⟨b, N, hm, hc⟩ := hρ x (by simp [Op.operands]) _ hx
            exact ⟨.pointer (some ⟨b, off + fd.offset, none⟩), val (by simp [hc, Instr.fieldAt, run_underlying hu, hf, Instr.sureAddr, fieldPlace, run_size hs, hb, add_off]), b, N, hm, rfl⟩
        · simp at hq
      · simp at hq
    · simp at hq
  | field s x f =>
    simp only [quietOf] at hq
    split at hq
    · rename_i cs fields hx hu
      split at hq
      · rename_i fd hf
        obtain ⟨xs, hc, hL⟩ := hρ x (by simp [Op.operands]) _ hx
        obtain ⟨y, h1, h2⟩ := part_run hq hL w
        exact ⟨y, val (by simp [hc, Instr.field, run_underlying hu, hf, asAgg, h1]), h2⟩
      · simp at hq
    · simp at hq
  | indexAddr t x ix =>
    simp only [quietOf] at hq
    split at hq
    · rename_i i off ixv n e hx hix hu
      split at hq
      · rename_i j sz hj hs
        cases hb : Nat.blt j n with
        | false => rw [hb] at hq; simp at hq
        | true =>
          rw [hb] at hq
          have hb := (blt_iff _ _).1 hb
          simp at hq; subst hq
          obtain ⟨b, N, hm, hc⟩ := hρ x (by simp [Op.operands]) _ hx
          obtain ⟨k, hk⟩ := nat_val hj (hρ ix (by simp [Op.operands]) _ hix)
          exact ⟨.pointer (some ⟨b, off + j * sz, none⟩), val (by simp [hc, hk, Instr.indexAt, asIntOf, run_underlying hu, Instr.sureAddr, hb, run_size hs, add_off]), b, N, hm, rfl⟩
      · simp at hq
    · rename_i i off len cm ex esz ixv e hx hix hu
      split at hq
      · rename_i j sz hj hs
        cases hb : (Nat.blt j len && Nat.beq sz esz) with
        | false => rw [hb] at hq; simp at hq
        | true =>
          rw [hb] at hq
          simp only [Bool.and_eq_true] at hb
          have hb1 := (blt_iff _ _).1 hb.1
          simp at hq; subst hq
          obtain ⟨b, N, c, hm, hc, _⟩ := hρ x (by simp [Op.operands]) _ hx
          obtain ⟨k, hk⟩ := nat_val hj (hρ ix (by simp [Op.operands]) _ hix)
          exact ⟨.pointer (some ⟨b, off + j * sz, none⟩), val (by simp [hc, hk, Instr.indexAt, asIntOf, run_underlying hu, hb1, run_size hs, add_off]), b, N, hm, rfl⟩
      · simp at hq
    · simp at hq
  | index t x ix =>
    simp only [quietOf] at hq
    split at hq
    · rename_i cs ixv n e hx hix hu
      split at hq
      · rename_i j sz hj hs
        cases hb : Nat.blt j n with
        | false => rw [hb] at hq; simp at hq
        | true =>
          rw [hb] at hq
          have hb := (blt_iff _ _).1 hb
          simp only [cond_true] at hq
          obtain ⟨xs, hc, hL⟩ := hρ x (by simp [Op.operands]) _ hx
          obtain ⟨k, hk⟩ := nat_val hj (hρ ix (by simp [Op.operands]) _ hix)
          obtain ⟨y, h1, h2⟩ := part_run hq hL w
          exact ⟨y, val (by simp [hc, hk, Instr.index, asIntOf, run_underlying hu, hb, run_size hs, h1]), h2⟩
      · simp at hq
    · rename_i s ixv hx hix hu
      split at hq
      · rename_i j hj
        split at hq
        · rename_i b hb
          simp at hq; subst hq
          have hc : ρc x = .string s := hρ x (by simp [Op.operands]) _ hx
          obtain ⟨k, hk⟩ := nat_val hj (hρ ix (by simp [Op.operands]) _ hix)
          have hb' : s[j]? = some b := by
            have h1 : s.data[j]? = some b := by simpa using hb
            obtain ⟨hlt, h2⟩ := Array.getElem?_eq_some_iff.1 h1
            exact getElem?_eq_some_iff.2 ⟨hlt, h2⟩
          exact ⟨.int .u8 (b.toNat : Int), val (by simp [hc, hk, Instr.index, asIntOf, run_underlying hu, hb']), rfl⟩
        · simp at hq
      · simp at hq
    · simp at hq
  | lookup t m x okk =>
    simp only [quietOf] at hq
    split at hq
    · rename_i mv key kt et hm hx hu
      cases hb : keyFits P kt key with
      | false => rw [hb] at hq; simp at hq
      | true =>
        rw [hb] at hq
        simp only [cond_true] at hq
        split at hq
        · rename_i es z he hz
          obtain ⟨y, h1, h2⟩ := lookup_sound h hu hb he hz (hρ m (by simp [Op.operands]) _ hm) (hρ x (by simp [Op.operands]) _ hx) hq
          exact ⟨y, val h1, h2⟩
        · simp at hq
    · simp at hq
  | extract x ix =>
    simp only [quietOf] at hq
    split at hq
    · rename_i cs hx
      obtain ⟨xs, hc, hL⟩ := hρ x (by simp [Op.operands]) _ hx
      obtain ⟨y, h1, h2⟩ := LR.nth (show LR μ cs xs.toList from hL) hq
      have h1' : xs[ix]? = some y := by simpa using h1
      exact ⟨y, val (by simp [hc, Instr.extract, h1']), h2⟩
    · simp at hq
  | call c =>
    obtain ⟨callee, args, argTypes⟩ := c
    cases callee with
    | builtin b =>
      simp only [quietOf] at hq
      split at hq
      · rename_i x hargs
        split at hq
        · rename_i t u htypes hx
          have ha : args = #[x] := by apply Array.toList_inj.1; simpa using hargs
          have ht : argTypes = #[t] := by apply Array.toList_inj.1; simpa using htypes
          subst ha ht
          obtain ⟨y, h1, h2⟩ := len_sound h (ty := type) hq (hρ x (by simp [Op.operands, Call.operands]) _ hx)
          exact ⟨y, by simp [execOp, resolve, invoke, builtin, h1], h2⟩
        · simp at hq
      · rename_i x y hargs
        split at hq
        · rename_i j a l b hx hy
          have ha : args = #[x, y] := by apply Array.toList_inj.1; simpa using hargs
          subst ha
          have e1 : ρc x = .int j a := hρ x (by simp [Op.operands, Call.operands]) _ hx
          have e2 : ρc y = .int l b := hρ y (by simp [Op.operands, Call.operands]) _ hy
          obtain ⟨z, h2, h3⟩ := scalar_run (w := w) μ hq
          exact ⟨z, by simp [execOp, resolve, invoke, builtin, Builtin.min_, e1, e2, h2], h3⟩
        · simp at hq
      · rename_i x y hargs
        split at hq
        · rename_i j a l b hx hy
          have ha : args = #[x, y] := by apply Array.toList_inj.1; simpa using hargs
          subst ha
          have e1 : ρc x = .int j a := hρ x (by simp [Op.operands, Call.operands]) _ hx
          have e2 : ρc y = .int l b := hρ y (by simp [Op.operands, Call.operands]) _ hy
          obtain ⟨z, h2, h3⟩ := scalar_run (w := w) μ hq
          exact ⟨z, by simp [execOp, resolve, invoke, builtin, Builtin.max_, e1, e2, h2], h3⟩
        · simp at hq
      · simp at hq
    | _ => simp [quietOf] at hq
  | _ => simp [quietOf] at hq

end

def Mk.obj : Mk → Nat → AObj
  | .cells e cs, i => .cells i 0 e cs
  | .map kt, _ => .map kt .nil

section
variable {P : Program} {B : Nat} {w0 : World} {G : Sett} {μ : Mu} {H : AH} {w : World}

theorem range_cells (A : Array Value) (hs : 0 < A.size) : ∀ n, (List.range (n * A.size)).map (fun i => A[i % A.size]!) = (List.replicate n A.toList).flatten
  | 0 => by simp
  | n + 1 => by
    have ih := range_cells A hs n
    rw [show (n + 1) * A.size = A.size + n * A.size from by rw [Nat.add_mul]; omega, List.range_add, List.map_append, List.map_map]
    have e1 : (List.range A.size).map (fun i => A[i % A.size]!) = A.toList := by
      apply List.ext_getElem
      · simp
      · intro i h1 h2
        have hi : i < A.size := by simpa using h1
        simp [Nat.mod_eq_of_lt hi, hi]
    have e2 : (List.range (n * A.size)).map ((fun i => A[i % A.size]!) ∘ fun x => A.size + x) = (List.replicate n A.toList).flatten := by
      rw [← ih]
      apply List.map_congr_left
      intro i _
      simp
    rw [e1, e2, List.replicate_succ, List.flatten_cons]

theorem made_LR {z : AV} {A : Array Value} (hz : LR μ z A.toList) (hs : 0 < A.size) (n m : Nat) (hm : m = n * A.size) : LR μ (AV.rep n z) ((Array.range m).map (A[· % A.size]!)).toList := by
  subst hm
  rw [Array.toList_map, Array.toList_range, range_cells A hs]
  exact LR.rep hz n

theorem fits_cells {R : List TypeId} {e : TypeId} {cs : AV} {arr : Array Value} (hr : R.contains e = false) (hL : LR μ cs arr.toList) (i : Nat) : Fits P R μ ((Mk.cells e cs).obj i) (.cells arr e) arr.size where
  nopq := by intro t h; cases h
  free := by intro _ _ _ h; cases h; exact hr
  cells := by
    intro fam ver e' cs' he
    cases he
    have := hL.len
    rw [Array.length_toList] at this
    refine ⟨arr, _, rfl, rfl, by omega, ?_⟩
    rw [List.take_of_length_le (by simp; omega)]
    exact hL
  map := by intro kt es he; cases he
  loop := by intro _ _ _ _ _ _ _ _ _ he; cases he
  defd := by intro _ he; cases he

theorem fits_map {R : List TypeId} (kt : TypeId) (i N : Nat) : Fits P R μ ((Mk.map kt).obj i) (.map #[] 0) N where
  nopq := by intro t h; cases h
  free := by intro _ _ _ h; cases h
  cells := by intro _ _ _ _ he; cases he
  map := by intro kt' es he; cases he; exact ⟨#[], 0, rfl, rfl⟩
  loop := by intro _ _ _ _ _ _ _ _ _ he; cases he
  defd := by intro _ he; cases he

theorem fillParts_len {ρ : Env} {pl : Nat → Option (Nat × Nat)} : ∀ {ps : List (Nat × Operand)} {a b : AV}, fillParts pl ρ a ps = some b → b.len = a.len
  | [], a, b, q => by simp [fillParts] at q; rw [q]
  | (i, x) :: r, a, b, q => by
    simp only [fillParts] at q
    split at q
    · rename_i off n v hp hx
      cases hb : Nat.beq v.cells.len n with
      | false => rw [hb] at q; simp at q
      | true =>
        rw [hb] at q
        simp only [cond_true] at q
        split at q
        · rename_i c hc
          rw [fillParts_len q, put_len hc]
        · simp at q
    · simp at q
theorem rep_len {z : AV} (h : z.isList = true) : ∀ n, (AV.rep n z).len = n * z.len
  | 0 => by simp [AV.rep, AV.len]
  | n + 1 => by rw [AV.rep, len_app h, rep_len h n, Nat.add_mul]; omega

theorem alloc_sound {ρ : Env} {ρc : Operand → Value} {o : Oper} (hρ : ∀ x ∈ o.op.operands, ∀ v, ρ x = some v → VR μ v (ρc x)) {mk : Mk} {f : Nat → AV} {R : List TypeId} (ha : allocOf P ρ o.op = some (mk, f)) (hR : mk.bad R = false) (w : World) :
    ∃ obj N x, (execOp ρc o).run P w = .ok (.value x) (w.alloc obj) ∧ (∀ i, Fits P R μ (mk.obj i) obj N) ∧ ∀ (ν : Mu) i, ν i = some (w.heap.size, N) → VR ν (f i) x := by
  obtain ⟨dst, op, type, pos, after, guard⟩ := o
  simp only at hρ ha
  cases op with
  | alloc e =>
    simp only [allocOf, Option.map_eq_some_iff] at ha
    obtain ⟨z, hz, ha⟩ := ha
    cases ha
    obtain ⟨zi, zx, hz1, hz2, hz3, hz4⟩ := zero_of μ hz
    refine ⟨.cells zx.cells e, zx.cells.size, .pointer (some ⟨w.heap.size, 0, none⟩), ?_, fun i => fits_cells hR hz3.cells i, fun ν i hν => ⟨_, _, hν, rfl⟩⟩
    simp [execOp, Instr.alloc, hz4, newVar, newRow]
  | box e x =>
    simp only [allocOf, Option.map_eq_some_iff] at ha
    obtain ⟨v, hv, ha⟩ := ha
    cases ha
    have h1 := hρ x (by simp [Op.operands]) _ hv
    refine ⟨.cells (ρc x).cells e, (ρc x).cells.size, .pointer (some ⟨w.heap.size, 0, none⟩), ?_, fun i => fits_cells hR h1.cells i, fun ν i hν => ⟨_, _, hν, rfl⟩⟩
    simp [execOp, Instr.box, newVar, newRow]
  | buildSlice t len parts =>
    simp only [allocOf] at ha
    split at ha
    · rename_i e hu
      split at ha
      · rename_i z n hz hs
        cases hb : (Nat.beq n 0 || Nat.ble 1000000 (len * n) || !Nat.beq z.cells.len n) with
        | true => rw [hb] at ha; simp at ha
        | false =>
          rw [hb] at ha
          simp only [Bool.or_eq_false_iff, Bool.not_eq_false'] at hb
          obtain ⟨⟨b1, b2⟩, b3⟩ := hb
          have b1 := (beq_false _ _).1 b1
          have b3 := (beq_iff _ _).1 b3
          have b2 : len * n < 1000000 := by
            refine Decidable.byContradiction fun q => ?_
            rw [Nat.ble_eq_true_of_le (by omega)] at b2; cases b2
          simp only [cond_false, Option.map_eq_some_iff] at ha
          obtain ⟨cs, hfill, ha⟩ := ha
          cases ha
          obtain ⟨zi, zx, hz1, hz2, hz3, hz4⟩ := zero_of μ hz
          have hzc := hz3.cells
          have hzs : zx.cells.size = n := by rw [← Array.length_toList, hzc.len, b3]
          have hp : ∀ p ∈ parts.toList, ∀ v, ρ p.2 = some v → VR μ v (ρc p.2) := by
            intro p hp
            exact hρ p.2 (by simp only [Op.operands, List.mem_toArray, List.mem_map]; exact ⟨p, hp, rfl⟩)
          have hmap : (parts.map fun (i, x) => (i, ρc x)).toList = parts.toList.map fun (p : Nat × Operand) => (p.1, ρc p.2) := by simp
          obtain ⟨cells', h1, h2⟩ := fill_sound parts.toList _ cs _ hp (made_LR hzc (by omega) len (len * n) (by rw [hzs])) hfill
          refine ⟨.cells cells' e, cells'.size, .slice (some ⟨w.heap.size, 0, none⟩) len len, ?_, fun i => fits_cells hR h2 i, fun ν i hν => ⟨_, _, len, hν, rfl, Nat.le_refl _, fun _ => rfl, ?_, Nat.le_refl _⟩⟩
          · have hbig : ¬ (16777216 < len * n) := by omega
            refine run_val ?_
            simp only [Instr.buildSlice, Sem.run_bind, run_underlying hu, Result.andThen_ok, run_size hs]
            rw [if_neg (by simpa using hbig)]
            by_cases hln : len * n = 0
            · simp only [if_pos hln, Sem.run_bind, Sem.run_pure, Result.andThen_ok, hmap]
              have hl0 : len = 0 := by
                rcases Nat.mul_eq_zero.1 hln with q | q
                · exact q
                · omega
              subst hl0
              have e1 : (Array.range (0 * n)).map (fun i => zx.cells[i % zx.cells.size]!) = (Array.range (0 * n)).map (fun i => (#[] : Array Value)[i % (#[] : Array Value).size]!) := by simp
              rw [e1] at h1
              rw [h1]
              simp [newRow]
            · simp only [if_neg hln, Sem.run_bind, hz4, Sem.run_pure, Result.andThen_ok, hmap, h1]
              simp [newRow]
          · have hcl := h2.len
            rw [fillParts_len hfill, rep_len (hzc.isList), b3, Array.length_toList] at hcl
            omega
      · simp at ha
    · simp at ha
  | makeSlice t l c =>
    simp only [allocOf] at ha
    split at ha
    · rename_i e lv cv hu hl hc
      split at ha
      · rename_i z inf len cap hz hi hln hcn
        cases hb : (Nat.beq inf.size 0 || Nat.ble 1000000000 ((cap + 1) * (inf.bytes + 1)) || Nat.blt cap len || !Nat.beq z.cells.len inf.size) with
        | true => rw [hb] at ha; simp at ha
        | false =>
          rw [hb] at ha
          simp only [Bool.or_eq_false_iff, Bool.not_eq_false'] at hb
          obtain ⟨⟨⟨b1, b2⟩, b3⟩, b4⟩ := hb
          have b1 := (beq_false _ _).1 b1
          have b4 := (beq_iff _ _).1 b4
          have b2 : (cap + 1) * (inf.bytes + 1) < 1000000000 := by
            refine Decidable.byContradiction fun q => ?_
            rw [Nat.ble_eq_true_of_le (by omega)] at b2; cases b2
          have b3 : len ≤ cap := by
            refine Decidable.byContradiction fun q => ?_
            rw [(blt_iff cap len).2 (by omega)] at b3; cases b3
          simp only [cond_false, Option.some.injEq] at ha
          cases ha
          obtain ⟨zi, zx, hz1, hz2, hz3, hz4⟩ := zero_of μ hz
          rw [hi] at hz1; cases hz1
          have hzc := hz3.cells
          have hzs : zx.cells.size = inf.size := by rw [← Array.length_toList, hzc.len, b4]
          obtain ⟨kl, el⟩ := nat_val hln (hρ l (by simp [Op.operands]) _ hl)
          obtain ⟨kc, ec⟩ := nat_val hcn (hρ c (by simp [Op.operands]) _ hc)
          have hcap : cap + 1 ≤ (cap + 1) * (inf.bytes + 1) := Nat.le_mul_of_pos_right _ (by omega)
          have hby : inf.bytes * cap ≤ (cap + 1) * (inf.bytes + 1) := by rw [Nat.mul_comm]; exact Nat.mul_le_mul (by omega) (by omega)
          have hrun := run_make w t e inf zx hu hi hz2 kl kc (len : Int) (cap : Int) (by omega) (by omega) (by
            have : ((inf.bytes * cap : Nat) : Int) ≤ 281474976710656 := by omega
            simpa using this) (by omega)
          have hLR := made_LR hzc (by omega) cap (cap * inf.size) (by rw [hzs])
          refine ⟨.cells (madeCells zx.cells (cap * inf.size)) e, (madeCells zx.cells (cap * inf.size)).size, .slice (some ⟨w.heap.size, 0, none⟩) len cap, ?_, fun i => fits_cells hR hLR i, fun ν i hν => ⟨_, _, cap, hν, rfl, Nat.le_refl _, fun _ => rfl, by simp [madeCells], b3⟩⟩
          refine run_val ?_
          rw [el, ec]
          simpa using hrun
      · simp at ha
    · simp at ha
  | makeMap t r =>
    cases r with
    | some x => simp [allocOf] at ha
    | none =>
      simp only [allocOf] at ha
      split at ha
      · rename_i kt et hu
        cases ha
        refine ⟨.map #[] 0, 0, .map (some w.heap.size), ?_, fun i => fits_map kt i 0, fun ν i hν => ⟨_, _, hν, rfl⟩⟩
        simp [execOp, Instr.makeMap]
      · simp at ha
  | _ => simp [allocOf] at ha

end
end Go.Eng
