/-
  The quiet operations of the abstract machine are those of the model.
  Conditions: none; lemmas for the soundness proof.
-/
import Derived.Test.YtjcmalmcijpnnaaDoorEngD
import Derived.ChangeKeysEq
import Derived.Laws.StructEq
namespace Go.Eng
open Go.RowKit

section
variable {P : Program} {w : World}

theorem pure?_run {α : Type} : ∀ {s : Sem α} {a : α}, pure? P s = some a → s.run P w = .ok a w
  | .pure a, b, h => by simp [pure?] at h; subst h; rfl
  | .program k, b, h => by
    simp only [pure?] at h
    simp only [Sem.run]
    exact pure?_run h
  | .load .., _, h | .store .., _, h | .new .., _, h | .shape .., _, h | .freeze .., _, h | .frozen .., _, h | .getObj .., _, h | .setObj .., _, h | .choose .., _, h | .sys .., _, h | .mark .., _, h | .halt .., _, h => by simp [pure?] at h

theorem scalar_run {s : Sem Value} {v : AV} (μ : Mu) (h : scalar P s = some v) : ∃ x, s.run P w = .ok x w ∧ VR μ v x := by
  unfold scalar at h
  split at h
  · rename_i u hu
    simp only [Option.map_eq_some_iff] at h
    obtain ⟨q, hq, rfl⟩ := h
    exact ⟨u, pure?_run hu, (Sc.of_val hq).symm⟩
  · simp at h

theorem info_of_size {t : TypeId} {n : Nat} (h : sizeT P t = some n) : ∃ i, P.info? t = some i ∧ i.size = n := by
  unfold sizeT at h
  split at h
  · rename_i i hi; simp at h; exact ⟨i, hi, h⟩
  · simp at h
theorem run_size {t : TypeId} {n : Nat} (h : sizeT P t = some n) (w : World) : (sizeOf t).run P w = .ok n w := by
  obtain ⟨i, hi, rfl⟩ := info_of_size h
  simp [sizeOf, typeInfo, hi]
theorem run_agg {t : TypeId} {q : Bool} (h : aggT P t = some q) (w : World) : (isAgg t).run P w = .ok q w := by
  unfold aggT at h
  split at h
  · rename_i f hu; simp at h; subst h; simp [isAgg, run_underlying hu]
  · rename_i n e hu; simp at h; subst h; simp [isAgg, run_underlying hu]
  · rename_i d h1 h2 hu
    simp at h; subst h
    simp only [isAgg, Sem.run_bind, run_underlying hu, Result.andThen_ok]
    rfl
  · simp at h
theorem zero_of {t : TypeId} {z : AV} (μ : Mu) (h : zeroOf P t = some z) : ∃ i x, P.info? t = some i ∧ i.zero = some x ∧ VR μ z x ∧ ∀ w, (zeroValue t).run P w = .ok x w := by
  unfold zeroOf at h
  split at h
  · rename_i i hi
    split at h
    · rename_i x hx
      exact ⟨i, x, hi, hx, ofVal_VR μ h, fun w => by simp [zeroValue, typeInfo, hi, hx]⟩
    · simp at h
  · simp at h

theorem natOf_int {v : AV} {n : Nat} (h : natOf v = some n) : ∃ k, v = .sc (.int k (n : Int)) := by
  unfold natOf at h
  split at h
  · simp at h; subst h; exact ⟨_, rfl⟩
  · simp at h

theorem VR.cells {μ : Mu} {v : AV} {x : Value} (h : VR μ v x) : LR μ v.cells x.cells.toList := by
  cases v with
  | agg cs => obtain ⟨xs, rfl, hx⟩ := h; exact hx
  | sc s =>
    have hx : x = s.val := h
    subst hx
    cases s <;> exact LR.cons rfl rfl
  | ptr i o => obtain ⟨b, N, hm, rfl⟩ := h; exact LR.cons ⟨b, N, hm, rfl⟩ rfl
  | slc i o l c e s => obtain ⟨b, N, q, hm, rfl, h1⟩ := h; exact LR.cons ⟨b, N, q, hm, rfl, h1⟩ rfl
  | map i => obtain ⟨b, N, hm, rfl⟩ := h; exact LR.cons ⟨b, N, hm, rfl⟩ rfl
  | yield i => obtain ⟨b, N, hm, rfl⟩ := h; exact LR.cons ⟨b, N, hm, rfl⟩ rfl
  | fn f a b => obtain ⟨xs, ys, rfl, h1⟩ := h; exact LR.cons ⟨xs, ys, rfl, h1⟩ rfl
  | iface t v => obtain ⟨y, rfl, h1⟩ := h; exact LR.cons ⟨y, rfl, h1⟩ rfl
  | tup cs => obtain ⟨xs, rfl, h1⟩ := h; exact LR.cons ⟨xs, rfl, h1⟩ rfl
  | nil => exact h.elim
  | cons a t => exact h.elim

theorem add_off (b o n : Nat) : (⟨b, o, none⟩ : Addr).add n = ⟨b, o + n, none⟩ := by unfold Addr.add; split <;> simp_all

/-! ### Parts and keys -/
theorem part_run {μ : Mu} {t : TypeId} {cs : AV} {off : Nat} {v : AV} {xs : Array Value} (h : partOf P t cs off = some v) (hx : LR μ cs xs.toList) (w : World) : ∃ x, (part t xs off).run P w = .ok x w ∧ VR μ v x := by
  unfold partOf at h
  split at h
  · rename_i n ha hs
    simp only at h
    cases hb : Nat.beq ((cs.drop off).take n).len n with
    | false => rw [hb] at h; simp at h
    | true =>
      rw [hb] at h
      simp only [cond_true, Option.some.injEq] at h
      subst h
      refine ⟨.agg (xs.extract off (off + n)), by simp [part, run_agg ha, run_size hs], _, rfl, ?_⟩
      have := (hx.drop off).take n
      have he : (xs.extract off (off + n)).toList = (xs.toList.drop off).take n := by
        rw [Array.toList_extract, List.extract_eq_take_drop, Nat.add_sub_cancel_left]
      rw [he]; exact this
  · rename_i n ha hs
    obtain ⟨x, h1, h2⟩ := hx.nth h
    have h1' : xs[off]? = some x := by simpa using h1
    exact ⟨x, by simp [part, run_agg ha, h1'], h2⟩
  · simp at h

theorem keyFits_cases {t : TypeId} {v : AV} (h : keyFits P t v = true) :
    (∃ k n, P.underlying t = some (.int k) ∧ v = .sc (.int k n)) ∨ (∃ s, P.underlying t = some .string ∧ v = .sc (.str s)) ∨ (∃ b, P.underlying t = some .bool ∧ v = .sc (.bool b)) ∨
    (∃ n e k cs, P.underlying t = some (.array n e) ∧ P.underlying e = some (.int k) ∧ sizeT P e = some 1 ∧ v = .agg cs ∧ cs.len = n ∧ allInts k cs = true) := by
  unfold keyFits at h
  split at h
  · rename_i k k' n hu; exact .inl ⟨k, n, hu, by rw [beqK_eq h]⟩
  · rename_i s hu; exact .inr (.inl ⟨s, hu, rfl⟩)
  · rename_i b hu; exact .inr (.inr (.inl ⟨b, hu, rfl⟩))
  · rename_i n e cs hu
    split at h
    · rename_i k he hs
      simp only [Bool.and_eq_true] at h
      exact .inr (.inr (.inr ⟨n, e, k, cs, hu, he, hs, rfl, (beq_iff _ _).1 h.1, h.2⟩))
    · simp at h
  · simp at h

theorem beqI_self (n : Int) : beqI n n = true := by cases n <;> simp [beqI]
theorem beqK_self (k : IntKind) : beqK k k = true := by cases k <;> rfl
theorem beqI_iff (a b : Int) : beqI a b = (a == b) := by
  rw [Bool.eq_iff_iff, beq_iff_eq]
  exact ⟨beqI_eq, fun h => h ▸ beqI_self a⟩
theorem beqB_iff (a b : Bool) : beqB a b = (a == b) := by cases a <;> cases b <;> rfl
theorem beqBytes_self : ∀ l : List UInt8, beqBytes l l = true
  | [] => rfl
  | b :: t => by simp [beqBytes, beqBytes_self t]
theorem beqStr_iff (a b : ByteArray) : beqBytes a.data.toList b.data.toList = (a == b) := by
  have e : (a == b) = (a.data == b.data) := rfl
  rw [e, Bool.eq_iff_iff, beq_iff_eq]
  constructor
  · intro h
    exact Array.toList_inj.1 (beqBytes_eq h)
  · intro h; rw [h]; exact beqBytes_self _

theorem allInts_cons {k : IntKind} {h t : AV} (q : allInts k (.cons h t) = true) : ∃ n, h = .sc (.int k n) ∧ allInts k t = true := by
  cases h with
  | sc s => cases s with
    | int k' n => simp only [allInts, Bool.and_eq_true] at q; exact ⟨n, by rw [beqK_eq q.1], q.2⟩
    | _ => simp [allInts] at q
  | _ => simp [allInts] at q

theorem eqItems_run {μ : Mu} {e : TypeId} {k : IntKind} (he : P.underlying e = some (.int k)) (d : Nat) (xs ys : Array Value) (w : World) : ∀ (a b : AV) (s m : Nat),
    LR μ a (xs.toList.drop s) → LR μ b (ys.toList.drop s) → allInts k a = true → allInts k b = true → a.len = m → b.len = m →
    (Op.eqItems (d + 1) e 1 xs ys (List.range' s m)).run P w = .ok (a.beq b) w := by
  intro a
  induction a with
  | nil =>
    intro b s m ha hb h1 h2 h3 h4
    simp [AV.len] at h3; subst h3
    cases b with
    | nil => simp [Op.eqItems, AV.beq]
    | cons x t => simp [AV.len] at h4
    | _ => exact hb.elim
  | cons h t _ ih =>
    intro b s m ha hb h1 h2 h3 h4
    cases b with
    | nil => simp [AV.len] at h3 h4; omega
    | cons h' t' =>
      obtain ⟨n, rfl, i1⟩ := allInts_cons h1
      obtain ⟨n', rfl, i2⟩ := allInts_cons h2
      obtain ⟨x, r, e1, x1, r1⟩ := ha
      obtain ⟨y, q, e2, y1, r2⟩ := hb
      have hx : x = .int k n := x1
      have hy : y = .int k n' := y1
      subst hx; subst hy
      have gx : xs[s]? = some (.int k n) := by
        have := congrArg (fun l => l[0]?) e1
        simpa using this
      have gy : ys[s]? = some (.int k n') := by
        have := congrArg (fun l => l[0]?) e2
        simpa using this
      have dx : xs.toList.drop (s + 1) = r := by rw [← List.drop_drop, e1]; rfl
      have dy : ys.toList.drop (s + 1) = q := by rw [← List.drop_drop, e2]; rfl
      obtain ⟨m', rfl⟩ : ∃ m', m = m' + 1 := ⟨t.len, by simp [AV.len] at h3; omega⟩
      have ih' := ih t' (s + 1) m' (by rw [dx]; exact r1) (by rw [dy]; exact r2) i1 i2 (by simp [AV.len] at h3; omega) (by simp [AV.len] at h4; omega)
      rw [List.range'_succ]
      simp only [Op.eqItems, Sem.run_bind, Nat.mul_one]
      have p1 : (part e xs s).run P w = .ok (.int k n) w := by simp [part, isAgg, run_underlying he, gx]
      have p2 : (part e ys s).run P w = .ok (.int k n') w := by simp [part, isAgg, run_underlying he, gy]
      have p3 : (Op.equalIn (d + 1) e (.int k n) (.int k n')).run P w = .ok (n == n') w := by simp [Op.equalIn, run_underlying he]
      rw [p1]; simp only [Result.andThen_ok]
      rw [p2]; simp only [Result.andThen_ok]
      rw [p3]; simp only [Result.andThen_ok]
      have hb : (AV.cons (.sc (.int k n)) t).beq (.cons (.sc (.int k n')) t') = ((n == n') && t.beq t') := by
        simp only [AV.beq, Sc.beq, beqK_self, Bool.true_and, beqI_iff]
      rw [hb]
      cases hq : (n == n') with
      | false => simp
      | true => simp only [Bool.not_true, Bool.false_eq_true, if_false, Bool.true_and]; exact ih'
    | _ => exact hb.elim
  | _ => intro b s m ha; exact ha.elim

theorem equal_run {μ : Mu} {t : TypeId} {a b : AV} {x y : Value} (ha : keyFits P t a = true) (hb : keyFits P t b = true) (hx : VR μ a x) (hy : VR μ b y) (d : Nat) (w : World) :
    (Op.equalIn (d + 2) t x y).run P w = .ok (a.beq b) w := by
  rcases keyFits_cases ha with ⟨k, n, hu, rfl⟩ | ⟨s, hu, rfl⟩ | ⟨q, hu, rfl⟩ | ⟨n, e, k, cs, hu, he, hs, rfl, hl, hi⟩ <;>
    rcases keyFits_cases hb with ⟨k', n', hu', rfl⟩ | ⟨s', hu', rfl⟩ | ⟨q', hu', rfl⟩ | ⟨n', e', k', cs', hu', he', hs', rfl, hl', hi'⟩ <;> rw [hu] at hu' <;> try (simp at hu'; done)
  · have hx' : x = .int k n := hx
    have hy' : y = .int k' n' := hy
    simp at hu'; subst hu'
    subst hx'; subst hy'
    simp [Op.equalIn, run_underlying hu, AV.beq, Sc.beq, beqK_self, beqI_iff]
  · have hx' : x = .string s := hx
    have hy' : y = .string s' := hy
    subst hx'; subst hy'
    simp [Op.equalIn, run_underlying hu, AV.beq, Sc.beq, beqStr_iff]
  · have hx' : x = .bool q := hx
    have hy' : y = .bool q' := hy
    subst hx'; subst hy'
    simp [Op.equalIn, run_underlying hu, AV.beq, Sc.beq, beqB_iff]
  · obtain ⟨xs, rfl, hx1⟩ := hx
    obtain ⟨ys, rfl, hy1⟩ := hy
    simp at hu'
    obtain ⟨rfl, rfl⟩ := hu'
    rw [he] at he'; simp at he'; subst he'
    obtain ⟨i, hinf, hsz⟩ := info_of_size hs
    rw [run_equalIn_array w (d + 1) xs ys hu hinf]
    have hc : P.cellsOf e = 1 := by simp [Program.cellsOf, hinf, hsz]
    rw [hc, List.range_eq_range']
    have := eqItems_run he d xs ys w cs cs' 0 n (by rw [List.drop_zero]; exact hx1) (by rw [List.drop_zero]; exact hy1) hi hi' hl hl'
    simpa [AV.beq] using this

end
end Go.Eng
