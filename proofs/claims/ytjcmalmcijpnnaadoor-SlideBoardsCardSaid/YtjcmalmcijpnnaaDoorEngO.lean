/-
  A region that draws its order, whole.
  Conditions: those of EngL; the program follows the row on mixed orders.
-/
import Derived.Test.YtjcmalmcijpnnaaDoorEngN
namespace Go.Eng
open Go.RowKit

theorem chain_head {bs : List Nat} : ∀ {l : List Nat} {e : Nat} {done r : List Nat}, l = done ++ e :: r → chained bs l = true → ∀ f ∈ r, (bsAt bs f).testBit e = true
  | l, e, [], r, h, hc, f, hf => by
    subst h
    simp only [List.nil_append, chained, Bool.and_eq_true, List.all_eq_true] at hc
    exact hc.1 f hf
  | l, e, d :: done, r, h, hc, f, hf => by
    subst h
    simp only [List.cons_append, chained, Bool.and_eq_true] at hc
    exact chain_head rfl hc.2 f hf

section
variable {P : Program} {B : Nat} {w0 : World} {G : List Nat} {self : Cb} {ops : Array Oper} {p : Plan} {T : Tr AV}

theorem mask_did (hp : PlanOK ops p) {listed : Array Bool} (hclosed : ∀ i j, Did listed i → (bsAt p.bs i).testBit j = true → Did listed j) {i : Nat} {o : Oper} (ho : ops[i]? = some o)
    (he : ∀ e ∈ o.after.toList, Region.binds .any e = true → Did listed e.on) : ∀ j, (bsAt p.bs i).testBit j = true → Did listed j := by
  intro j hj
  obtain ⟨e, h1, h2, h3⟩ := hp.mask i o ho j hj
  rcases h3 with rfl | h3
  · exact he e h1 h2
  · exact hclosed _ _ (he e h1 h2) h3

theorem any_wp (hN : NamesOK P) (hC : CallOK P B w0 G self) (hR : RoundOK P B w0 G self) (hp : PlanOK ops p) {nt : Nat} {ds : List Nat} {H0 : AH} {μ0 : Mu} {valsF : Vals} {HF : AH} {T' : Tr AV} {ro : Option Nat} {Q : Exit → CAct → World → Prop}
    (hlay : layVals ops valsF nt (List.range ops.size) T = some T') (hQ : ∀ c' μ' w', Ext H0 μ0 HF μ' → ActRel μ' { T := T', nt, ds } c' → Rep P B w0 G μ' HF w' → Q .normal c' w') :
    ∀ (fuel : Nat) (es : List Nat) (prev : Option Nat) (stage : Nat) (vals : Vals) (H : AH) (listed : Array Bool) (c : CAct) (w : World) (μ : Mu),
      Inv P B w0 G self ops p T nt ds H0 μ0 valsF HF es prev stage vals H listed c w μ → cntF (fun i => listed.getD i false) ops.size ≤ fuel → wpAnyIn (Fz ro) 0 P .any ops Q fuel listed c w := by
  obtain ⟨hdst, hfinal⟩ := layVals_spec _ _ _ hlay
  -- the end
  have fin : ∀ {es prev stage vals H listed c w μ}, Inv P B w0 G self ops p T nt ds H0 μ0 valsF HF es prev stage vals H listed c w μ → Region.ready .any ops listed = [] → Q .normal c w := by
    intro es prev stage vals H listed c w μ hI hr
    have hall := ready_nil hp hI.lsize hr
    have hes : es = [] := by
      cases es with
      | nil => rfl
      | cons e r =>
        exfalso
        obtain ⟨done, h1, _⟩ := hI.split
        have hmem : e ∈ p.bars := by rw [h1]; simp
        rw [hp.bars] at hmem
        have : e < ops.size := by
          unfold barsOf at hmem
          rw [List.mem_filter, List.mem_range] at hmem
          exact hmem.1
        exact hI.left e (by simp) (hall e this)
    subst hes
    have hrun := hI.run
    simp [runBars] at hrun
    obtain ⟨rfl, rfl⟩ := hrun
    refine hQ c μ w hI.ext ⟨⟨hI.size, ?_⟩, hI.defers⟩ hI.rep
    intro t v ht
    rcases hfinal t v ht with ⟨j, hj, o, id, ho, hod, hv⟩ | ⟨hno, hT⟩
    · have hjn : j < ops.size := by simpa using hj
      obtain ⟨u, id', h1, h2⟩ := hI.tmpsW j o t (hall j hjn) ho hod
      rw [hv] at h1; cases h1
      exact h2
    · refine hI.tmps0 t ?_ v hT
      intro j o hj ho
      exact hno j (by simpa using (Array.getElem?_eq_some_iff.1 ho).1) o ho
  intro fuel
  induction fuel with
  | zero =>
    intro es prev stage vals H listed c w μ hI hcnt
    have hz : cntF (fun i => listed.getD i false) ops.size = 0 := by omega
    have hall := cntF_zero hz
    have hr : Region.ready .any ops listed = [] := by
      cases hq : Region.ready .any ops listed with
      | nil => rfl
      | cons i r =>
        have := ready_spec hI.lsize (i := i) (by rw [hq]; simp)
        exact absurd (hall i this.1) this.2.1
    exact ⟨hr, fin hI hr⟩
  | succ fuel ih =>
    intro es prev stage vals H listed c w μ hI hcnt
    refine ⟨fin hI, ?_⟩
    intro i hi
    obtain ⟨hin, hnd, o, ho, hedges⟩ := ready_spec hI.lsize hi
    have hready := mask_did hp hI.closed ho hedges
    have hd : ∀ d, o.dst = some d → d < nt := by
      obtain ⟨o', ho', hdd⟩ := hdst i (by simpa using hin)
      rw [ho] at ho'; cases ho'
      exact hdd
    have hilt : i < listed.size := by rw [hI.lsize]; exact hin
    have hcnt' : cntF (fun j => (listed.setIfInBounds i true).getD j false) ops.size ≤ fuel := by
      have := cntF_set (f := fun j => listed.getD j false) (g := fun j => (listed.setIfInBounds i true).getD j false) (i := i) hnd (did_set_new hilt) (by
        intro j hj
        simp [Array.getD_eq_getD_getElem?, Ne.symm hj]) hin
      omega
    have henv := hI.env hp ho hnd hready
    -- the bars that are listed
    obtain ⟨done, hsplit, hdl, hdone⟩ := hI.split
    simp only [wpOpIn, ho]
    cases hbar : isBar o.op with
    | false =>
      have hine : i ∉ p.bars := by
        rw [hp.bars]
        unfold barsOf
        rw [List.mem_filter]
        intro q
        have := q.2
        rw [ho] at this
        simp only at this
        rw [hbar] at this; cases this
      -- what the check says
      have hck := hI.check
      unfold checkStage at hck
      rw [List.all_eq_true] at hck
      have hck := hck i (by simpa using hin)
      rw [ho] at hck
      simp only [hbar, Bool.false_or, Bool.or_eq_true] at hck
      have hstage : Nat.blt stage (stageOf p i) = false := by
        have hle : stageOf p i ≤ stage := by
          unfold stageOf
          rw [hsplit, List.filter_append, List.length_append]
          have h1 : (es.filter fun e => (bsAt p.bs i).testBit e) = [] := by
            rw [List.filter_eq_nil_iff]
            intro e he q
            exact hI.left e he (hready e q)
          rw [h1]
          have := List.length_filter_le (fun e => (bsAt p.bs i).testBit e) done
          simp; omega
        cases hq : Nat.blt stage (stageOf p i) with
        | false => rfl
        | true => have := (blt_iff _ _).1 hq; omega
      have hskip : skipped p prev i = false := by
        unfold skipped
        cases hprev : prev with
        | none => rfl
        | some e =>
          simp only
          cases hq : (bsAt p.bs e).testBit i with
          | false => rfl
          | true => exact absurd (hI.closed e i (hI.prevL e hprev) hq) hnd
      rw [hstage, hskip] at hck
      have hck : againD P G ops p T vals H i o = true := by simpa using hck
      -- the rest of the state, whatever the operation
      have step : ∀ {μ' : Mu} {w' : World} {v : AV} {id : Option Nat} {x : Value}, getV vals i = some (v, id) → VR μ' v x → μ.le μ' → Ext H0 μ0 H μ' → Rep P B w0 G μ' H w' →
          (∀ j v id, getV vals j = some (v, some id) → ¬ Did (listed.setIfInBounds i true) j → μ' id = none) → wpAnyIn (Fz ro) 0 P .any ops Q fuel (listed.setIfInBounds i true) (c.put o.dst x) w' := by
        intro μ' w' v id x hv hx hle hext hrep hids
        refine ih es prev stage vals H _ _ w' μ' ?_ hcnt'
        refine hI.next hp ho hnd hready hd (fun _ _ q => q) hv hx hle hrep hext ⟨done, hsplit, hdl, fun e he => did_set_old (hdone e he)⟩ ?_ (fun e he => did_set_old (hI.prevL e he)) ?_ hI.inj hI.check hI.run
        · intro e he q
          rcases did_set q with rfl | q
          · exact hine (by rw [hsplit]; simp [he])
          · exact hI.left e he q
        · intro j u id' q
          exact ⟨(hI.ids j u id' q).1, (hI.ids j u id' q).2.1, hids j u id' q⟩
      have idsSame : ∀ j v id, getV vals j = some (v, some id) → ¬ Did (listed.setIfInBounds i true) j → μ id = none := by
        intro j v id q hq
        exact (hI.ids j v id q).2.2 (fun hdj => hq (did_set_old hdj))
      unfold againD at hck
      split at hck
      · rename_i v hwd hgv
        rw [hI.wanted hp ho hready hwd]
        simp only [Bool.false_eq_true, if_false]
        have := AV.beq_eq hck
        subst this
        exact ⟨fun f _ => Fz_fn ro f, step hgv rfl (.refl μ) hI.ext hI.rep idsSame⟩
      · rename_i v id hwd hgv
        rw [hI.wanted hp ho hready hwd]
        simp only [if_true]
        split at hck
        · rename_i id' hal
          split at hck
          · rename_i m f hm
            simp only [Bool.and_eq_true] at hck
            obtain ⟨⟨hfv, hst⟩, hlt⟩ := hck
            have hfv := AV.beq_eq hfv
            have hget := stillMade_get hst
            have hun : μ id' = none := (hI.ids i v id' hgv).2.2 hnd
            obtain ⟨obj, N, x, g1, g2, g3⟩ := alloc_sound henv hm w
            have hrep : Rep P B w0 G (μ.add id' w.heap.size N) H (w.alloc obj) := hI.rep.bind ((blt_iff _ _).1 hlt) (fun q hq => by rw [hget] at hq; exact (Option.some.inj hq).symm) hun (g2 id')
            refine wpIn_of_run (alloc_noDefer hm) g1 (.inl rfl) (step hgv (by rw [← hfv]; exact g3 _ _ (if_pos rfl)) (Mu.le_add hun) ⟨hI.ext.1.trans (Mu.le_add hun), hI.ext.2.1, ?_⟩ hrep ?_)
            · intro k hk hk0
              have := (hI.ids i v id' hgv).1
              unfold Mu.add
              rw [if_neg (by omega)]
              exact hI.ext.2.2 k hk hk0
            · intro j u id2 hj hndj
              unfold Mu.add
              split
              · rename_i heq
                subst heq
                have := hI.inj j i u v id2 hj hgv
                subst this
                exact absurd (did_set_new hilt) hndj
              · exact idsSame j u id2 hj hndj
          · cases hck
        · rename_i hal
          split at hck
          · rename_i v' hq
            have := AV.beq_eq hck
            subst this
            obtain ⟨x, g1, g2⟩ := quiet_sound hI.rep henv hq
            exact wpIn_of_run (quiet_noDefer hq) g1 (.inl rfl) (step hgv g2 (.refl μ) hI.ext hI.rep idsSame)
          · cases hck
        · cases hck
      · cases hck
    | true =>
      have hib : i ∈ p.bars := by
        rw [hp.bars]
        unfold barsOf
        rw [List.mem_filter]
        exact ⟨by simpa using hin, by rw [ho]; exact hbar⟩
      -- it is the next barrier
      have hies : i ∈ es := by
        rw [hsplit] at hib
        rcases List.mem_append.1 hib with q | q
        · exact absurd (hdone i q) hnd
        · exact q
      obtain ⟨es', rfl⟩ : ∃ es', es = i :: es' := by
        cases es with
        | nil => cases hies
        | cons e r =>
          rcases List.mem_cons.1 hies with rfl | q
          · exact ⟨r, rfl⟩
          · have := chain_head hsplit hp.chain i q
            exact absurd (hready e this) (hI.left e (by simp))
      have hrun := hI.run
      simp only [runBars, ho] at hrun
      cases hsome : (getV vals i).isSome with
      | true => rw [hsome] at hrun; cases hrun
      | false =>
        rw [hsome] at hrun
        have hnone : getV vals i = none := by cases hq : getV vals i <;> simp_all
        simp only [cond_false] at hrun
        have hnodup : ∀ e ∈ es', e ≠ i := by
          intro e he q
          subst q
          have hb := chain_head hsplit hp.chain e he
          exact hnd (hready e hb)
        -- the rest of the state
        have step : ∀ {μ1 : Mu} {w1 : World} {v : AV} {x : Value} {H1 : AH}, VR μ1 v x → Ext H μ H1 μ1 → Rep P B w0 G μ1 H1 w1 →
            (match endStage P G ops p T (stage + 1) (some i) ((i, v, none) :: vals) H1 with
              | some (vals, H) => runBars P G self ops p T es' (stage + 1) vals H
              | none => none) = some (valsF, HF) → wpAnyIn (Fz ro) 0 P .any ops Q fuel (listed.setIfInBounds i true) (c.put o.dst x) w1 := by
          intro μ1 w1 v x H1 hx hext hrep hrest
          split at hrest
          · rename_i vals2 H2 hend
            obtain ⟨hadd, hck⟩ := endStage_some (P := P) (B := B) (w0 := w0) (G := G) hend μ1
            have hadd0 := (added_plain (P := P) (B := B) (w0 := w0) (G := G) (H := H1) μ1 (v := v) hnone)
            have hrep2 := hadd.rep w1 hrep
            have hext2 : Ext H μ H2 μ1 := ⟨hext.1, Nat.le_trans hext.2.1 hadd.next, hext.2.2⟩
            refine ih es' (some i) (stage + 1) vals2 H2 _ _ w1 μ1 ?_ hcnt'
            refine hI.next hp ho hnd hready hd (fun j y q => hadd.old j y (hadd0.old j y q)) (hadd.old i _ getV_cons_eq) hx hext.1 hrep2 (hI.ext.trans hext2)
              ⟨done ++ [i], by rw [hsplit]; simp, by simp [hdl], ?_⟩ ?_ ?_ ?_ ?_ hck hrest
            · intro e he
              rcases List.mem_append.1 he with q | q
              · exact did_set_old (hdone e q)
              · have : e = i := by simpa using q
                subst this
                exact did_set_new hilt
            · intro e he q
              rcases did_set q with rfl | q
              · exact hnodup e he rfl
              · exact hI.left e (by simp [he]) q
            · intro e he
              cases he
              exact did_set_new hilt
            · intro j u id q
              rcases hadd.new j u id q with q | q
              · have q' : getV vals j = some (u, some id) := by
                  by_cases hij : i = j
                  · subst hij; rw [getV_cons_eq] at q; cases q
                  · rw [getV_cons_ne hij] at q; exact q
                obtain ⟨a1, a2, a3⟩ := hI.ids j u id q'
                exact ⟨a1, Nat.lt_of_lt_of_le a2 hext2.2.1, fun hndj => hext.2.2 id a2 (a3 (fun hdj => hndj (did_set_old hdj)))⟩
              · refine ⟨?_, q.2, fun _ => hrep.notYet q.1⟩
                have h1 := hI.ext.2.1
                have h2 := hext.2.1
                omega
            · refine hadd.inj ?_ (hadd0.inj ?_ hI.inj)
              · intro j u id q
                have q' : getV vals j = some (u, some id) := by
                  by_cases hij : i = j
                  · subst hij; rw [getV_cons_eq] at q; cases q
                  · rw [getV_cons_ne hij] at q; exact q
                have := (hI.ids j u id q').2.1
                have := hext.2.1
                omega
              · intro j u id q
                have := (hI.ids j u id q).2.1
                have := hext.2.1
                omega
          · cases hrest
        split at hrun
        · rename_i hwd
          rw [hI.wanted hp ho hready hwd]
          simp only [if_true]
          exact stepE_wp hN hC hR hI.rep henv hrun (fun v H1 μ1 x w1 g1 g2 g3 g4 => step g3 g2 g4 g1)
        · rename_i hwd
          rw [hI.wanted hp ho hready hwd]
          simp only [Bool.false_eq_true, if_false]
          exact ⟨fun f _ => Fz_fn ro f, step (v := .sc .undef) rfl (.refl H μ) hI.rep hrun⟩
        · cases hrun

/-- **A region that draws its order.** -/
theorem draw_wp (hm : P.follows .mixedOrders = true) (hN : NamesOK P) (hC : CallOK P B w0 G self) (hR : RoundOK P B w0 G self) (hp : planOf ops = some p) {a a' : Act} {H H' : AH} {μ : Mu} {w : World} {c : CAct}
    (hr : runDraw P G self ops p a H = some (a', H')) (h : Rep P B w0 G μ H w) (ha : ActRel μ a c) {ro : Option Nat} {Q : Exit → CAct → World → Prop} {id : Nat}
    (hQ : ∀ c' μ' w', Ext H μ H' μ' → ActRel μ' a' c' → Rep P B w0 G μ' H' w' → Q .normal c' w') : (Code.region id ops true).wpIn (Fz ro) 0 P Q c w := by
  have hpl := plan_ok hp
  unfold runDraw at hr
  split at hr
  · rename_i vals1 H1 hend
    split at hr
    · rename_i valsF HF hbars
      split at hr
      · rename_i T' hlay
        simp only [Option.some.injEq, Prod.mk.injEq] at hr
        obtain ⟨rfl, rfl⟩ := hr
        obtain ⟨hadd, hck⟩ := endStage_some (P := P) (B := B) (w0 := w0) (G := G) hend μ
        refine wpIn_region_any hm ?_
        have hrep : Rep P B w0 G μ H { w with drawn := w.drawn + 1 } := h.drewN _
        have none : ∀ i, ¬ Did (Array.replicate ops.size false) i := by
          intro i q
          unfold Did at q
          rw [Array.getD_eq_getD_getElem?, Array.getElem?_replicate] at q
          split at q <;> simp at q
        have hcnt : cntF (fun i => (Array.replicate ops.size false).getD i false) ops.size ≤ ops.size := by
          have : ∀ n, cntF (fun i => (Array.replicate ops.size false).getD i false) n ≤ n := by
            intro n
            induction n with
            | zero => exact Nat.le_refl _
            | succ n ih => simp only [cntF]; split <;> omega
          exact this _
        refine any_wp hN hC hR hpl (ds := a.ds) hlay hQ ops.size p.bars Option.none 0 vals1 H1 _ c _ μ ?_ hcnt
        exact {
          rep := hadd.rep _ hrep
          ext := ⟨.refl μ, hadd.next, fun _ _ q => q⟩
          defers := ha.2
          size := ha.1.1
          lsize := by simp
          closed := fun i j q => absurd q (none i)
          tmpsW := fun j o d q => absurd q (none j)
          tmps0 := fun t _ v q => ha.1.2 t v q
          split := ⟨[], rfl, rfl, fun e he => by cases he⟩
          left := fun e _ => none e
          prevL := fun e he => by cases he
          ids := by
            intro j v id q
            rcases hadd.new j v id q with q | q
            · simp [getV] at q
            · exact ⟨q.1, q.2, fun _ => h.notYet q.1⟩
          inj := hadd.inj (fun j v id q => by simp [getV] at q) (fun i j v v' id q => by simp [getV] at q)
          check := hck
          run := hbars }
      · cases hr
    · cases hr
  · cases hr

end
end Go.Eng
