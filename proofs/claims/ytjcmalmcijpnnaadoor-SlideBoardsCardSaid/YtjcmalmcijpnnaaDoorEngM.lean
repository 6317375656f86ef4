/-
  A region that draws its order: whatever order is drawn, the walk ends where the abstract machine's stages end.
  Conditions: those of EngL; the program follows the row on mixed orders.
-/
import Derived.Test.YtjcmalmcijpnnaaDoorEngL
namespace Go.Eng
open Go.RowKit

theorem maskL_spec (bs : List Nat) : ∀ (l : List Edge) (j : Nat), (maskL bs l).testBit j = true → ∃ e ∈ l, Region.binds .any e = true ∧ (j = e.on ∨ (bsAt bs e.on).testBit j = true)
  | [], j, h => by simp [maskL] at h
  | e :: r, j, h => by
    simp only [maskL] at h
    cases hb : Region.binds .any e with
    | false =>
      rw [hb] at h
      obtain ⟨e', h1, h2⟩ := maskL_spec bs r j h
      exact ⟨e', by simp [h1], h2⟩
    | true =>
      rw [hb] at h
      simp only [cond_true, Nat.testBit_or, Bool.or_eq_true] at h
      rcases h with (h | h) | h
      · rw [Nat.testBit_two_pow] at h
        exact ⟨e, by simp, hb, .inl (of_decide_eq_true h).symm⟩
      · exact ⟨e, by simp, hb, .inr h⟩
      · obtain ⟨e', h1, h2⟩ := maskL_spec bs r j h
        exact ⟨e', by simp [h1], h2⟩

/-- What a plan says. -/
structure PlanOK (ops : Array Oper) (p : Plan) : Prop where
  mask : ∀ i o, ops[i]? = some o → ∀ j, (bsAt p.bs i).testBit j = true → ∃ e ∈ o.after.toList, Region.binds .any e = true ∧ (j = e.on ∨ (bsAt p.bs e.on).testBit j = true)
  lower : ∀ i o, ops[i]? = some o → ∀ e ∈ o.after.toList, Region.binds .any e = true → e.on < i
  guard : ∀ i o j want, ops[i]? = some o → o.guard = some (j, want) → (bsAt p.bs i).testBit j = true
  dsts : ∀ (i j : Nat) (o q : Oper) (d : Tmp), ops[i]? = some o → ops[j]? = some q → o.dst = some d → q.dst = some d → i = j
  reads : ∀ (i j : Nat) (o q : Oper) (d : Tmp), ops[i]? = some o → ops[j]? = some q → q.dst = some d → d ∈ tmpsOf o → i = j ∨ (bsAt p.bs i).testBit j = true ∨ (bsAt p.bs j).testBit i = true
  bars : p.bars = barsOf ops
  chain : chained p.bs p.bars = true

theorem plan_ok {ops : Array Oper} {p : Plan} (h : planOf ops = some p) : PlanOK ops p := by
  unfold planOf at h
  simp only at h
  cases hc : ((List.range ops.size).all (fun i => maskOk ops (masks ops.toList []) i && guardOk ops (masks ops.toList []) i && (List.range ops.size).all fun j => apartAt ops (masks ops.toList []) i j) && chained (masks ops.toList []) (barsOf ops)) with
  | false => rw [hc] at h; cases h
  | true =>
    rw [hc] at h
    simp only [cond_true, Option.some.injEq] at h
    subst h
    simp only [Bool.and_eq_true, List.all_eq_true, List.mem_range] at hc
    obtain ⟨hall, hchain⟩ := hc
    have lt : ∀ {i : Nat} {o : Oper}, ops[i]? = some o → i < ops.size := fun q => (Array.getElem?_eq_some_iff.1 q).1
    have mk : ∀ i o, ops[i]? = some o → bsAt (masks ops.toList []) i = maskL (masks ops.toList []) o.after.toList ∧ ∀ e ∈ o.after.toList, Region.binds .any e = true → e.on < i := by
      intro i o ho
      have := (hall i (lt ho)).1.1
      simp only [maskOk, ho, Bool.and_eq_true, List.all_eq_true, Bool.or_eq_true, Bool.not_eq_true'] at this
      refine ⟨(beq_iff _ _).1 this.1, fun e he hb => ?_⟩
      rcases this.2 e he with q | q
      · rw [hb] at q; cases q
      · exact (blt_iff _ _).1 q
    refine ⟨?_, fun i o ho => (mk i o ho).2, ?_, ?_, ?_, rfl, hchain⟩
    · intro i o ho j hj
      simp only at hj
      rw [(mk i o ho).1] at hj
      exact maskL_spec _ _ _ hj
    · intro i o j want ho hg
      have := (hall i (lt ho)).1.2
      simpa [guardOk, ho, hg] using this
    · intro i j o q d ho hq hd hd'
      have := (hall i (lt ho)).2 j (lt hq)
      simp only [apartAt, ho, hq, hd', hd, Bool.or_eq_true, Bool.and_eq_true, Bool.not_eq_true'] at this
      rcases this with q | ⟨q, _⟩
      · exact (beq_iff _ _).1 q
      · rw [(beq_iff d d).2 rfl] at q; cases q
    · intro i j o q d ho hq hd' hmem
      have := (hall i (lt ho)).2 j (lt hq)
      simp only [apartAt, ho, hq, hd', Bool.or_eq_true, Bool.and_eq_true, Bool.not_eq_true'] at this
      rcases this with q | ⟨_, (q | q) | q⟩
      · exact .inl ((beq_iff _ _).1 q)
      · have : (tmpsOf o).contains d = true := by simpa using hmem
        rw [this] at q; cases q
      · exact .inr (.inl q)
      · exact .inr (.inr q)

theorem getV_cons_ne {j i : Nat} {x : AV × Option Nat} {r : Vals} (h : j ≠ i) : getV ((j, x) :: r) i = getV r i := by
  simp only [getV]
  rw [(beq_false j i).2 h]; rfl
theorem getV_cons_eq {i : Nat} {x : AV × Option Nat} {r : Vals} : getV ((i, x) :: r) i = some x := by
  simp only [getV]
  rw [(beq_iff i i).2 rfl]; rfl

theorem writerOf_some {ops : Array Oper} {m : Nat} {t j : Nat} (h : writerOf ops m t = some j) : j < ops.size ∧ m.testBit j = true ∧ ∃ o, ops[j]? = some o ∧ o.dst = some t := by
  unfold writerOf at h
  have h1 := List.find?_some h
  have h2 := List.mem_of_find?_eq_some h
  simp only [Bool.and_eq_true] at h1
  refine ⟨by simpa using h2, h1.1, ?_⟩
  have h3 := h1.2
  split at h3
  · rename_i d hd
    have hdt := (beq_iff _ _).1 h3
    subst hdt
    rw [Option.bind_eq_some_iff] at hd
    obtain ⟨o, ho, hod⟩ := hd
    exact ⟨o, ho, hod⟩
  · cases h3
theorem writerOf_none {ops : Array Oper} {m t : Nat} (h : writerOf ops m t = none) {j : Nat} {o : Oper} (ho : ops[j]? = some o) (hd : o.dst = some t) : m.testBit j = false := by
  unfold writerOf at h
  rw [List.find?_eq_none] at h
  have hj : j < ops.size := (Array.getElem?_eq_some_iff.1 ho).1
  have := h j (by simpa using hj)
  rw [ho] at this
  simp only [Option.bind_some, hd] at this
  rw [(beq_iff t t).2 rfl] at this
  simpa using this

section
variable {P : Program} {B : Nat} {w0 : World} {G : List Nat} {self : Cb} {ops : Array Oper} {p : Plan} {T : Tr AV}

abbrev Did (listed : Array Bool) (i : Nat) : Prop := listed.getD i false = true

/-- What holds between two operations of the drawn order. -/
structure Inv (P : Program) (B : Nat) (w0 : World) (G : List Nat) (sf : Cb) (ops : Array Oper) (p : Plan) (T : Tr AV) (nt : Nat) (ds : List Nat) (H0 : AH) (μ0 : Mu) (valsF : Vals) (HF : AH)
    (es : List Nat) (prev : Option Nat) (stage : Nat) (vals : Vals) (H : AH) (listed : Array Bool) (c : CAct) (w : World) (μ : Mu) : Prop where
  rep : Rep P B w0 G μ H w
  ext : Ext H0 μ0 H μ
  defers : DR μ ds c.defers
  size : c.tmps.size = nt
  lsize : listed.size = ops.size
  closed : ∀ i j, Did listed i → (bsAt p.bs i).testBit j = true → Did listed j
  tmpsW : ∀ j o d, Did listed j → ops[j]? = some o → o.dst = some d → ∃ v id, getV vals j = some (v, id) ∧ VR μ v (c.tmps.getD d undef)
  tmps0 : ∀ t, (∀ j o, Did listed j → ops[j]? = some o → o.dst ≠ some t) → ∀ v, T.get t = some v → VR μ v (c.tmps.getD t undef)
  split : ∃ done, p.bars = done ++ es ∧ done.length = stage ∧ ∀ e ∈ done, Did listed e
  left : ∀ e ∈ es, ¬ Did listed e
  prevL : ∀ e, prev = some e → Did listed e
  ids : ∀ j v id, getV vals j = some (v, some id) → H0.next ≤ id ∧ id < H.next ∧ (¬ Did listed j → μ id = none)
  inj : ∀ i j v v' id, getV vals i = some (v, some id) → getV vals j = some (v', some id) → i = j
  check : checkStage P G ops p T vals H stage prev = true
  run : runBars P G sf ops p T es stage vals H = some (valsF, HF)

theorem did_set {listed : Array Bool} {i j : Nat} : Did (listed.setIfInBounds i true) j → (j = i ∨ Did listed j) := by
  intro h
  by_cases hij : j = i
  · exact .inl hij
  · right
    unfold Did at *
    simpa [Array.getD_eq_getD_getElem?, Array.getElem?_setIfInBounds, Ne.symm hij] using h
theorem did_set_old {listed : Array Bool} {i j : Nat} (h : Did listed j) : Did (listed.setIfInBounds i true) j := by
  unfold Did at *
  rw [Array.getD_eq_getD_getElem?, Array.getElem?_setIfInBounds]
  split
  · rename_i hij
    subst hij
    have hlt : i < listed.size := by
      refine Decidable.byContradiction fun q => ?_
      rw [Array.getD_eq_getD_getElem?, Array.getElem?_eq_none (by omega)] at h
      simp at h
    simp [hlt]
  · rw [Array.getD_eq_getD_getElem?] at h; exact h
theorem did_set_new {listed : Array Bool} {i : Nat} (h : i < listed.size) : Did (listed.setIfInBounds i true) i := by
  simp [Did, h]

/-- What a stage adds. -/
structure Added (μ : Mu) (vals : Vals) (H : AH) (vals' : Vals) (H' : AH) : Prop where
  old : ∀ j x, getV vals j = some x → getV vals' j = some x
  new : ∀ j v id, getV vals' j = some (v, some id) → getV vals j = some (v, some id) ∨ (H.next ≤ id ∧ id < H'.next)
  inj : (∀ j v id, getV vals j = some (v, some id) → id < H.next) → (∀ i j v v' id, getV vals i = some (v, some id) → getV vals j = some (v', some id) → i = j) →
    ∀ i j v v' id, getV vals' i = some (v, some id) → getV vals' j = some (v', some id) → i = j
  next : H.next ≤ H'.next
  rep : ∀ w, Rep P B w0 G μ H w → Rep P B w0 G μ H' w

theorem Added.refl (μ : Mu) (vals : Vals) (H : AH) : Added (P := P) (B := B) (w0 := w0) (G := G) μ vals H vals H :=
  ⟨fun _ _ h => h, fun _ _ _ h => .inl h, fun _ h => h, Nat.le_refl _, fun _ h => h⟩

theorem Added.trans {μ : Mu} {v1 v2 v3 : Vals} {H1 H2 H3 : AH} (h : Added (P := P) (B := B) (w0 := w0) (G := G) μ v1 H1 v2 H2) (k : Added (P := P) (B := B) (w0 := w0) (G := G) μ v2 H2 v3 H3) : Added (P := P) (B := B) (w0 := w0) (G := G) μ v1 H1 v3 H3 where
  old := fun j x q => k.old j x (h.old j x q)
  new := by
    intro j v id q
    rcases k.new j v id q with q | q
    · rcases h.new j v id q with q | q
      · exact .inl q
      · exact .inr ⟨q.1, Nat.lt_of_lt_of_le q.2 k.next⟩
    · exact .inr ⟨Nat.le_trans h.next q.1, q.2⟩
  inj := by
    intro hid hinj
    refine k.inj ?_ (h.inj hid hinj)
    intro j v id q
    rcases h.new j v id q with q | q
    · exact Nat.lt_of_lt_of_le (hid j v id q) h.next
    · exact q.2
  next := Nat.le_trans h.next k.next
  rep := fun w q => k.rep w (h.rep w q)

theorem added_plain (μ : Mu) {vals : Vals} {H : AH} {i : Nat} {v : AV} (hi : getV vals i = none) : Added (P := P) (B := B) (w0 := w0) (G := G) μ vals H ((i, v, none) :: vals) H where
  old := by
    intro j x q
    by_cases hij : i = j
    · subst hij; rw [hi] at q; cases q
    · rw [getV_cons_ne hij]; exact q
  new := by
    intro j u id q
    by_cases hij : i = j
    · subst hij; rw [getV_cons_eq] at q; cases q
    · rw [getV_cons_ne hij] at q; exact .inl q
  inj := by
    intro _ hinj a b u u' id q1 q2
    by_cases h1 : i = a
    · subst h1; rw [getV_cons_eq] at q1; cases q1
    · by_cases h2 : i = b
      · subst h2; rw [getV_cons_eq] at q2; cases q2
      · rw [getV_cons_ne h1] at q1; rw [getV_cons_ne h2] at q2; exact hinj a b u u' id q1 q2
  next := Nat.le_refl _
  rep := fun _ h => h

theorem added_made (μ : Mu) {vals : Vals} {H : AH} {i : Nat} {v : AV} (m : Mk) (hi : getV vals i = none) : Added (P := P) (B := B) (w0 := w0) (G := G) μ vals H ((i, v, some H.next) :: vals) (H.made m) where
  old := by
    intro j x q
    by_cases hij : i = j
    · subst hij; rw [hi] at q; cases q
    · rw [getV_cons_ne hij]; exact q
  new := by
    intro j u id q
    by_cases hij : i = j
    · subst hij; rw [getV_cons_eq] at q; cases q; exact .inr ⟨Nat.le_refl _, by rw [made_next]; exact Nat.lt_succ_self _⟩
    · rw [getV_cons_ne hij] at q; exact .inl q
  inj := by
    intro hid hinj a b u u' id q1 q2
    by_cases h1 : i = a <;> by_cases h2 : i = b
    · omega
    · subst h1; rw [getV_cons_eq] at q1; cases q1
      rw [getV_cons_ne h2] at q2; have := hid b _ _ q2; omega
    · subst h2; rw [getV_cons_eq] at q2; cases q2
      rw [getV_cons_ne h1] at q1; have := hid a _ _ q1; omega
    · rw [getV_cons_ne h1] at q1; rw [getV_cons_ne h2] at q2; exact hinj a b u u' id q1 q2
  next := by rw [made_next]; exact Nat.le_succ _
  rep := fun w h => by
    cases m with
    | cells e cs => exact h.layCells e cs
    | map kt => exact h.layObj _ (by simp)

theorem runStage_added (μ : Mu) {stage : Nat} : ∀ (l : List Nat) (vals : Vals) (H : AH) (vals' : Vals) (H' : AH), runStage P G ops p T stage l vals H = some (vals', H') → Added (P := P) (B := B) (w0 := w0) (G := G) μ vals H vals' H'
  | [], vals, H, vals', H', h => by simp [runStage] at h; obtain ⟨rfl, rfl⟩ := h; exact .refl μ vals H
  | i :: r, vals, H, vals', H', h => by
    simp only [runStage] at h
    split at h
    · cases h
    · rename_i o ho
      cases hb : (isBar o.op || !Nat.beq (stageOf p i) stage) with
      | true => rw [hb] at h; exact runStage_added μ r _ _ _ _ h
      | false =>
        rw [hb] at h
        simp only [cond_false] at h
        cases hs : (getV vals i).isSome with
        | true => rw [hs] at h; cases h
        | false =>
          rw [hs] at h
          have hn : getV vals i = none := by cases hq : getV vals i <;> simp_all
          simp only [cond_false] at h
          split at h
          · split at h
            · split at h
              · rename_i e cs f hm
                simp only [AV.force_eq, newCells_eq] at h
                exact (added_made μ (.cells e cs) hn).trans (runStage_added μ r _ _ _ _ h)
              · rename_i kt f hm
                simp only [newObj_eq] at h
                exact (added_made μ (.map kt) hn).trans (runStage_added μ r _ _ _ _ h)
              · cases h
            · split at h
              · rename_i v hv
                simp only [AV.force_eq] at h
                exact (added_plain μ hn).trans (runStage_added μ r _ _ _ _ h)
              · cases h
          · exact (added_plain μ hn).trans (runStage_added μ r _ _ _ _ h)
          · cases h

theorem endStage_some {stage : Nat} {prev : Option Nat} {vals vals' : Vals} {H H' : AH} (h : endStage P G ops p T stage prev vals H = some (vals', H')) (μ : Mu) :
    Added (P := P) (B := B) (w0 := w0) (G := G) μ vals H vals' H' ∧ checkStage P G ops p T vals' H' stage prev = true := by
  unfold endStage at h
  split at h
  · rename_i v1 H1 hr
    cases hc : checkStage P G ops p T v1 H1 stage prev with
    | false => rw [hc] at h; cases h
    | true =>
      rw [hc] at h
      simp at h
      obtain ⟨rfl, rfl⟩ := h
      exact ⟨runStage_added μ _ _ _ _ _ hr, hc⟩
  · cases h

end
end Go.Eng
