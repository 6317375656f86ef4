/-
  A region that draws its order: the induction over whatever order is drawn.
  Conditions: those of EngL; the program follows the row on mixed orders.
-/
import Derived.Test.YtjcmalmcijpnnaaDoorEngM
namespace Go.Eng
open Go.RowKit

/-- How many numbers below n are not yet there. -/
def cntF (f : Nat → Bool) : Nat → Nat
  | 0 => 0
  | n + 1 => cntF f n + if f n = true then 0 else 1
theorem cntF_zero {f : Nat → Bool} : ∀ {n : Nat}, cntF f n = 0 → ∀ i, i < n → f i = true
  | n + 1, h, i, hi => by
    simp only [cntF] at h
    by_cases hn : f n = true
    · rcases Nat.lt_succ_iff_lt_or_eq.1 hi with q | rfl
      · exact cntF_zero (by omega) i q
      · exact hn
    · rw [if_neg hn] at h; omega
theorem cntF_set {f g : Nat → Bool} {i : Nat} (hf : f i ≠ true) (hg : g i = true) (ho : ∀ j, j ≠ i → g j = f j) : ∀ {n : Nat}, i < n → cntF g n + 1 = cntF f n
  | n + 1, hi => by
    simp only [cntF]
    rcases Nat.lt_succ_iff_lt_or_eq.1 hi with q | rfl
    · have := cntF_set hf hg ho q
      rw [ho n (by omega)]; omega
    · have : ∀ m, m ≤ i → cntF g m = cntF f m := by
        intro m
        induction m with
        | zero => intro _; rfl
        | succ m ih => intro hm; simp only [cntF]; rw [ih (by omega), ho m (by omega)]
      rw [this i (Nat.le_refl _), if_pos hg, if_neg hf]

section
variable {P : Program} {B : Nat} {w0 : World} {G : List Nat} {self : Cb} {ops : Array Oper} {p : Plan} {T : Tr AV}

theorem ready_spec {listed : Array Bool} (hs : listed.size = ops.size) {i : Nat} (h : i ∈ Region.ready .any ops listed) : i < ops.size ∧ ¬ Did listed i ∧ ∃ o, ops[i]? = some o ∧ ∀ e ∈ o.after.toList, Region.binds .any e = true → Did listed e.on := by
  unfold Region.ready at h
  simp only [List.mem_filter, List.mem_range, Bool.and_eq_true, Bool.not_eq_true'] at h
  obtain ⟨hi, h1, h2⟩ := h
  refine ⟨hi, ?_, ?_⟩
  · intro q
    unfold Did at q
    have hlt : i < listed.size := by omega
    rw [Array.getD_eq_getD_getElem?, Array.getElem?_eq_getElem hlt] at q h1
    simp at q h1
    rw [q] at h1; cases h1
  · have ho : ops[i]? = some ops[i] := Array.getElem?_eq_getElem hi
    refine ⟨ops[i], ho, ?_⟩
    rw [ho] at h2
    simp only [Option.map_some, Option.getD_some, Array.all_eq_true_iff_forall_mem, Bool.or_eq_true, Bool.not_eq_true'] at h2
    intro e he hb
    rcases h2 e (by simpa using he) with q | q
    · rw [hb] at q; cases q
    · exact q

theorem ready_nil (hp : PlanOK ops p) {listed : Array Bool} (hs : listed.size = ops.size) (h : Region.ready .any ops listed = []) : ∀ i, i < ops.size → Did listed i := by
  intro i
  induction i using Nat.strongRecOn with
  | ind i ih =>
    intro hi
    refine Decidable.byContradiction fun hnd => ?_
    have ho : ops[i]? = some ops[i] := Array.getElem?_eq_getElem hi
    have : i ∈ Region.ready .any ops listed := by
      unfold Region.ready
      simp only [List.mem_filter, List.mem_range, Bool.and_eq_true, Bool.not_eq_true']
      refine ⟨hi, ?_, ?_⟩
      · have hlt : i < listed.size := by omega
        unfold Did at hnd
        rw [Array.getD_eq_getD_getElem?, Array.getElem?_eq_getElem hlt] at hnd ⊢
        simpa using hnd
      · rw [ho]
        simp only [Option.map_some, Option.getD_some, Array.all_eq_true_iff_forall_mem, Bool.or_eq_true, Bool.not_eq_true']
        intro e he
        cases hb : Region.binds .any e with
        | false => exact .inl rfl
        | true =>
          have hlow := hp.lower i _ ho e (by simpa using he) hb
          exact .inr (ih e.on hlow (by omega))
    rw [h] at this; cases this

theorem layVals_spec {vals : Vals} {nt : Nat} : ∀ (l : List Nat) (T T' : Tr AV), layVals ops vals nt l T = some T' →
    (∀ i ∈ l, ∃ o, ops[i]? = some o ∧ ∀ d, o.dst = some d → d < nt) ∧
    ∀ t v, T'.get t = some v → (∃ j ∈ l, ∃ o id, ops[j]? = some o ∧ o.dst = some t ∧ getV vals j = some (v, id)) ∨ ((∀ j ∈ l, ∀ o, ops[j]? = some o → o.dst ≠ some t) ∧ T.get t = some v)
  | [], T, T', h => by
    simp [layVals] at h; subst h
    exact ⟨by simp, fun t v q => .inr ⟨by simp, q⟩⟩
  | i :: r, T, T', h => by
    simp only [layVals] at h
    split at h
    · cases h
    · rename_i o ho
      split at h
      · rename_i d v id hd hv
        cases hlt : Nat.blt d nt with
        | false => rw [hlt] at h; cases h
        | true =>
          rw [hlt] at h
          simp only [cond_true, Tr.setK_eq] at h
          obtain ⟨h1, h2⟩ := layVals_spec r _ _ h
          refine ⟨?_, ?_⟩
          · intro j hj
            rcases List.mem_cons.1 hj with rfl | hj
            · exact ⟨o, ho, fun d' hd' => by rw [hd] at hd'; cases hd'; exact (blt_iff _ _).1 hlt⟩
            · exact h1 j hj
          · intro t u q
            rcases h2 t u q with ⟨j, hj, o', id', g1, g2, g3⟩ | ⟨g1, g2⟩
            · exact .inl ⟨j, by simp [hj], o', id', g1, g2, g3⟩
            · rcases Tr.get_set deep T d (some v) t u g2 with ⟨rfl, q'⟩ | ⟨hne, q'⟩
              · cases q'; exact .inl ⟨i, by simp, o, id, ho, hd, hv⟩
              · refine .inr ⟨?_, q'⟩
                intro j hj o' ho'
                rcases List.mem_cons.1 hj with rfl | hj
                · rw [ho] at ho'; cases ho'; rw [hd]; intro e; cases e; exact hne rfl
                · exact g1 j hj o' ho'
      · rename_i x hd hv
        obtain ⟨h1, h2⟩ := layVals_spec r _ _ h
        refine ⟨?_, ?_⟩
        · intro j hj
          rcases List.mem_cons.1 hj with rfl | hj
          · exact ⟨o, ho, fun d' hd' => by rw [hd] at hd'; cases hd'⟩
          · exact h1 j hj
        · intro t u q
          rcases h2 t u q with ⟨j, hj, o', id', g1, g2, g3⟩ | ⟨g1, g2⟩
          · exact .inl ⟨j, by simp [hj], o', id', g1, g2, g3⟩
          · refine .inr ⟨?_, g2⟩
            intro j hj o' ho'
            rcases List.mem_cons.1 hj with rfl | hj
            · rw [ho] at ho'; cases ho'; rw [hd]; simp
            · exact g1 j hj o' ho'
      · cases h

theorem put_size (c : CAct) (dst : Option Tmp) (x : Value) : (c.put dst x).tmps.size = c.tmps.size := by
  cases dst <;> simp [Go.Act.put]
theorem put_defers (c : CAct) (dst : Option Tmp) (x : Value) : (c.put dst x).defers = c.defers := by
  cases dst <;> simp [Go.Act.put]
theorem put_other {c : CAct} {dst : Option Tmp} {x : Value} {t : Nat} (h : dst ≠ some t) : (c.put dst x).tmps.getD t undef = c.tmps.getD t undef := by
  cases dst with
  | none => rfl
  | some d =>
    have : d ≠ t := by intro e; subst e; exact h rfl
    simp [Go.Act.put, Array.getD_eq_getD_getElem?, this]
theorem put_same {c : CAct} {d : Nat} {x : Value} (h : d < c.tmps.size) : (c.put (some d) x).tmps.getD d undef = x := by
  simp [Go.Act.put, Array.getD_eq_getD_getElem?, h]

section
variable {nt : Nat} {ds : List Nat} {H0 : AH} {μ0 : Mu} {valsF : Vals} {HF : AH} {es : List Nat} {prev : Option Nat} {stage : Nat} {vals : Vals} {H : AH} {listed : Array Bool} {c : CAct} {w : World} {μ : Mu}

/-- The next state, what is the same at each kind of operation. -/
theorem Inv.next (hp : PlanOK ops p) (hI : Inv P B w0 G self ops p T nt ds H0 μ0 valsF HF es prev stage vals H listed c w μ) {i : Nat} {o : Oper} (ho : ops[i]? = some o) (hnd : ¬ Did listed i)
    (hready : ∀ j, (bsAt p.bs i).testBit j = true → Did listed j) (hdst : ∀ d, o.dst = some d → d < nt) {es' : List Nat} {prev' : Option Nat} {stage' : Nat} {vals' : Vals} {H' : AH} {μ' : Mu} {w' : World} {v : AV} {id : Option Nat} {x : Value}
    (hold : ∀ j y, getV vals j = some y → getV vals' j = some y) (hv : getV vals' i = some (v, id)) (hx : VR μ' v x) (hmono : μ.le μ')
    (rep : Rep P B w0 G μ' H' w') (ext : Ext H0 μ0 H' μ') (split : ∃ done, p.bars = done ++ es' ∧ done.length = stage' ∧ ∀ e ∈ done, Did (listed.setIfInBounds i true) e) (left : ∀ e ∈ es', ¬ Did (listed.setIfInBounds i true) e)
    (prevL : ∀ e, prev' = some e → Did (listed.setIfInBounds i true) e) (ids : ∀ j v id, getV vals' j = some (v, some id) → H0.next ≤ id ∧ id < H'.next ∧ (¬ Did (listed.setIfInBounds i true) j → μ' id = none))
    (inj : ∀ i j v v' id, getV vals' i = some (v, some id) → getV vals' j = some (v', some id) → i = j) (check : checkStage P G ops p T vals' H' stage' prev' = true) (run : runBars P G self ops p T es' stage' vals' H' = some (valsF, HF)) :
    Inv P B w0 G self ops p T nt ds H0 μ0 valsF HF es' prev' stage' vals' H' (listed.setIfInBounds i true) (c.put o.dst x) w' μ' where
  rep := rep
  ext := ext
  defers := by rw [put_defers]; exact hI.defers.mono hmono
  size := by rw [put_size]; exact hI.size
  lsize := by simp [hI.lsize]
  closed := by
    intro a j ha hj
    rcases did_set ha with rfl | ha
    · exact did_set_old (hready j hj)
    · exact did_set_old (hI.closed a j ha hj)
  tmpsW := by
    intro j q d hj hq hd
    by_cases hji : j = i
    · subst hji
      rw [ho] at hq; cases hq
      refine ⟨v, id, hv, ?_⟩
      rw [hd, put_same (by rw [hI.size]; exact hdst d hd)]
      exact hx
    · rcases did_set hj with e | hj
      · exact absurd e hji
      · obtain ⟨u, id', h1, h2⟩ := hI.tmpsW j q d hj hq hd
        refine ⟨u, id', hold j _ h1, ?_⟩
        rw [put_other (fun e => hji (hp.dsts j i q o d hq ho hd e))]
        exact h2.mono hmono
  tmps0 := by
    intro t ht u hu
    have hlt : i < listed.size := by rw [hI.lsize]; exact (Array.getElem?_eq_some_iff.1 ho).1
    rw [put_other (ht i o (did_set_new hlt) ho)]
    exact (hI.tmps0 t (fun j q hj hq => ht j q (did_set_old hj) hq) u hu).mono hmono
  split := split
  left := left
  prevL := prevL
  ids := ids
  inj := inj
  check := check
  run := run

/-- What an operation reads, when it is its turn. -/
theorem Inv.env (hp : PlanOK ops p) (hI : Inv P B w0 G self ops p T nt ds H0 μ0 valsF HF es prev stage vals H listed c w μ) {i : Nat} {o : Oper} (ho : ops[i]? = some o) (hnd : ¬ Did listed i)
    (hready : ∀ j, (bsAt p.bs i).testBit j = true → Did listed j) : ∀ x ∈ o.op.operands, ∀ v, envD G ops (bsAt p.bs i) T vals x = some v → VR μ v (c.eval x) := by
  intro x hx v hv
  cases x with
  | tmp t =>
    simp only [envD] at hv
    split at hv
    · rename_i j hj
      obtain ⟨_, hb, q, hq, hqd⟩ := writerOf_some hj
      obtain ⟨u, id, h1, h2⟩ := hI.tmpsW j q t (hready j hb) hq hqd
      rw [h1] at hv
      simp at hv; subst hv
      exact h2
    · rename_i hnone
      refine hI.tmps0 t ?_ v hv
      intro j q hj hq hqd
      have hmem : t ∈ tmpsOf o := by
        unfold tmpsOf
        rw [List.mem_filterMap]
        exact ⟨.tmp t, by simpa using hx, rfl⟩
      rcases hp.reads i j o q t ho hq hqd hmem with rfl | hb | hb
      · exact hnd hj
      · rw [writerOf_none hnone hq hqd] at hb; cases hb
      · exact hnd (hI.closed j i hj hb)
  | const u => exact ofVal_VR μ hv
  | global g =>
    simp only [envD] at hv
    cases hc : G.contains g with
    | false => rw [hc] at hv; cases hv
    | true =>
      rw [hc] at hv
      simp at hv; subst hv
      obtain ⟨N, hN⟩ := hI.rep.glob g (by simpa using hc)
      exact ⟨g, N, hN, rfl⟩
  | func f =>
    simp [envD] at hv; subst hv
    exact ⟨#[], #[], rfl, rfl, rfl⟩

theorem Inv.wanted (hp : PlanOK ops p) (hI : Inv P B w0 G self ops p T nt ds H0 μ0 valsF HF es prev stage vals H listed c w μ) {i : Nat} {o : Oper} (ho : ops[i]? = some o)
    (hready : ∀ j, (bsAt p.bs i).testBit j = true → Did listed j) {b : Bool} (hw : wantedD ops vals o = some b) : Region.wanted o (yielded ops c.tmps) = b := by
  unfold wantedD at hw
  unfold Region.wanted
  split at hw
  · rename_i hg; simp at hw; subst hw; rw [hg]
  · rename_i j want hg
    rw [hg]
    simp only [yielded]
    have hj := hready j (hp.guard i o j want ho hg)
    split at hw
    · rename_i hd; simp at hw; subst hw; rw [hd]; simp
    · rename_i d hd
      rw [hd]
      simp only [Option.bind_some]
      rw [Option.bind_eq_some_iff] at hd
      obtain ⟨q, hq, hqd⟩ := hd
      obtain ⟨u, id, h1, h2⟩ := hI.tmpsW j q d hj hq hqd
      rw [h1] at hw
      split at hw
      · rename_i bb _ heq
        simp only [Option.some.injEq, Prod.mk.injEq] at heq
        obtain ⟨rfl, _⟩ := heq
        simp at hw; subst hw
        have hv : c.tmps.getD d undef = .bool bb := h2
        have hlt : c.tmps[d]? = some (.bool bb) := by
          rw [Array.getD_eq_getD_getElem?] at hv
          cases hcd : c.tmps[d]? with
          | none => rw [hcd] at hv; simp [undef] at hv
          | some x => rw [hcd] at hv; simpa using hv
        rw [hlt]
        simp [beqB_iff]
      · rename_i _ heq
        simp only [Option.some.injEq, Prod.mk.injEq] at heq
        obtain ⟨rfl, _⟩ := heq
        simp at hw; subst hw
        have hv : c.tmps.getD d undef = .tuple #[] := h2
        rw [Array.getD_eq_getD_getElem?] at hv
        cases hcd : c.tmps[d]? with
        | none => simp
        | some x => rw [hcd] at hv; simp at hv; subst hv; simp
      · cases hw

theorem stillMade_get {i : Nat} {m : Mk} (h : stillMade H i m = true) : H.objs.get i = some (m.obj i) := by
  unfold stillMade at h
  cases m with
  | cells e cs =>
    simp only at h
    split at h
    · rename_i fam ver e' cs' ho
      simp only [Bool.and_eq_true] at h
      obtain ⟨⟨⟨h1, h2⟩, h3⟩, h4⟩ := h
      rw [ho, (beq_iff _ _).1 h1, (beq_iff _ _).1 h2, ← (beq_iff _ _).1 h3, AV.beq_eq h4]; rfl
    · cases h
  | map kt =>
    simp only at h
    split at h
    · rename_i kt' es' ho
      simp only [Bool.and_eq_true] at h
      rw [ho, ← (beq_iff _ _).1 h.1, AV.beq_eq h.2]; rfl
    · cases h

end
end
end Go.Eng
