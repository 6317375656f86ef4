/-
  'Ruin', of arguments that are as they should be. A region that draws its order, calls functions and has guards: one walk serves every order,
  Conditions: see each statement.
-/
import Derived.Test.YtepakfjilnpodaaGreatDoorPAAV
import Derived.Test.YtepakfjilnpodaaGreatDoorPAAT
import Derived.Test.YtepakfjilnpodaaGreatDoorPAAS
namespace Go.Eng
open Go.RowKit

/-- Every guard holds. -/
def GOn (ops : Array Oper) (a : CAct) (o : Oper) : Prop := ∀ x y, o.guard = some (x, y) → ∃ q d, ops[x]? = some q ∧ q.dst = some d ∧ a.tmps.getD d undef = .bool y
def GVal (ops : Array Oper) (val : Nat → Value) (o : Oper) : Prop := ∀ x y, o.guard = some (x, y) → (∃ q d, ops[x]? = some q ∧ q.dst = some d) ∧ val x = .bool y
def plainG (o : Oper) : Bool := match o.op with | .defer _ => false | .select .. => false | _ => true
theorem tmps_bool {t : Array Value} {d : Tmp} {b : Bool} (h : t.getD d undef = .bool b) : t[d]? = some (.bool b) := by
  rw [Array.getD_eq_getD_getElem?] at h
  cases e : t[d]? with
  | none => rw [e] at h; cases h
  | some v => rw [e] at h; exact congrArg some h
/-- The walk. K: what holds of all worlds of the region; ks: the operations that read the same in all of them. -/
def GWK (K : World → Prop) (ks : List Nat) (P : Program) (ro : Option Nat) (ops : Array Oper) (bs bars : List Nat) (Q : CAct → World → Prop) : List Nat → CAct → World → Prop
  | [], a, w => Q a w
  | i :: r, a, w => ∃ o, ops[i]? = some o ∧ GOn ops a o ∧
      ((bars.contains i = true ∧
          ((∃ f args, (execOp a.eval o).run P w = .ok (.enter f args) w ∧ CallsIn (Fz ro) 0 P f args w fun e w' => ∃ v, e = .returned v ∧ ((lastK bs ks ops.size i = true ∧ K w') ∨ Below w.heap.size w w') ∧ GWK K ks P ro ops bs bars Q r (a.put o.dst v) w') ∨
           (∃ w' v, ((execOp a.eval o).run P w = .ok (.value v) w' ∨ ((execOp a.eval o).run P w = .ok .skip w' ∧ v = undef)) ∧ ((lastK bs ks ops.size i = true ∧ K w') ∨ Below w.heap.size w w') ∧ GWK K ks P ro ops bs bars Q r (a.put o.dst v) w'))) ∨
       (bars.contains i = false ∧ ∃ v, (∀ w', (Below w.heap.size w w' ∨ (ks.contains i = true ∧ K w')) → (execOp a.eval o).run P w' = .ok (.value v) w') ∧ GWK K ks P ro ops bs bars Q r (a.put o.dst v) w))
section
variable {P : Program} {ops : Array Oper} {p : Plan}

structure CoreG (K : World → Prop) (ks : List Nat) (P : Program) (ro : Option Nat) (ops : Array Oper) (p : Plan) (bars : List Nat) (Q : CAct → World → Prop) (a : CAct) (ord done rest : List Nat) (val : Nat → Value) (g : CAct) (listed : Array Bool) (w : World) : Prop where
  ord : done ++ rest = ord
  size : g.tmps.size = a.tmps.size
  defers : g.defers = a.defers
  gW : ∀ j ∈ done, ∀ o d, ops[j]? = some o → o.dst = some d → g.tmps.getD d undef = val j
  g0 : ∀ t, (∀ j ∈ done, ∀ o, ops[j]? = some o → o.dst ≠ some t) → g.tmps.getD t undef = a.tmps.getD t undef
  quiet : ∀ i ∈ done, ¬ Did listed i → ∀ o, ops[i]? = some o → i ∉ bars ∧ ∀ c : CAct, Agree ops p val a i o c → ∀ w', (Below w.heap.size w w' ∨ (ks.contains i = true ∧ K w')) → (execOp c.eval o).run P w' = .ok (.value (val i)) w'
  cont : GWK K ks P ro ops p.bs bars Q rest g w
  gd : ∀ i ∈ done, ∀ o, ops[i]? = some o → GVal ops val o

theorem core_agreeG {K : World → Prop} {ks : List Nat} {ro : Option Nat} {bars : List Nat} {Q : CAct → World → Prop} {a : CAct} {ord done r : List Nat} {i : Nat} {val : Nat → Value} {g : CAct} {listed : Array Bool} {w : World} (hp : PlanOK ops p) (hord : ordOk p.bs bars ord = true) (hall : ∀ i, i < ops.size → i ∈ ord)
    (hC : CoreG K ks P ro ops p bars Q a ord done (i :: r) val g listed w) {o : Oper} (ho : ops[i]? = some o) : Agree ops p val a i o g := by
  have hs := hC.ord ▸ hord
  obtain ⟨h1, h2⟩ := ord_split hs
  intro t ht
  refine ⟨fun j q hj hq hd => ?_, fun hno => ?_⟩
  · refine hC.gW j ?_ q t hq hd
    have hjo : j ∈ ord := hall j (Array.getElem?_eq_some_iff.1 hq).1
    rw [← hC.ord] at hjo
    rcases List.mem_append.1 hjo with h | h
    · exact h
    · rcases List.mem_cons.1 h with rfl | h
      · have := mask_lt hp j o ho j hj; omega
      · have := (h1 j h).1; rw [hj] at this; cases this
  · refine hC.g0 t fun j hj q hq hd => ?_
    rcases hp.reads i j o q t ho hq hd ht with rfl | hb | hb
    · exact (h2 i hj).2.1 rfl
    · exact hno j q hb hq hd
    · have := (h2 j hj).1; rw [hb] at this; cases this

theorem core_gval {K : World → Prop} {ks : List Nat} {ro : Option Nat} {bars : List Nat} {Q : CAct → World → Prop} {a : CAct} {ord done r : List Nat} {i : Nat} {val : Nat → Value} {g : CAct} {listed : Array Bool} {w : World} (hp : PlanOK ops p) (hord : ordOk p.bs bars ord = true) (hall : ∀ i, i < ops.size → i ∈ ord)
    (hC : CoreG K ks P ro ops p bars Q a ord done (i :: r) val g listed w) {o : Oper} (ho : ops[i]? = some o) (hg : GOn ops g o) : GVal ops val o := by
  intro x y hx
  obtain ⟨q, d, hq, hd, hv⟩ := hg x y hx
  refine ⟨⟨q, d, hq, hd⟩, ?_⟩
  have hb := hp.guard i o x y ho hx
  have hs := hC.ord ▸ hord
  obtain ⟨h1, h2⟩ := ord_split hs
  have hxo : x ∈ ord := hall x (Array.getElem?_eq_some_iff.1 hq).1
  rw [← hC.ord] at hxo
  have hxd : x ∈ done := by
    rcases List.mem_append.1 hxo with h | h
    · exact h
    · rcases List.mem_cons.1 h with rfl | h
      · have := mask_lt hp x o ho x hb; omega
      · have := (h1 x h).1; rw [hb] at this; cases this
  rw [← hC.gW x hxd q d hq hd]
  exact hv
theorem core_putG {K : World → Prop} {ks : List Nat} {ro : Option Nat} {bars : List Nat} {Q : CAct → World → Prop} {a : CAct} {ord done r : List Nat} {i : Nat} {val : Nat → Value} {g : CAct} {listed listed' : Array Bool} {w w' : World} (hp : PlanOK ops p) (hord : ordOk p.bs bars ord = true)
    (hdst : ∀ o ∈ ops.toList, ∀ d, o.dst = some d → d < a.tmps.size)
    (hC : CoreG K ks P ro ops p bars Q a ord done (i :: r) val g listed w) {o : Oper} (ho : ops[i]? = some o) (v : Value) (hcont : GWK K ks P ro ops p.bs bars Q r (g.put o.dst v) w') (hgv : GVal ops val o)
    (hq : ∀ j ∈ done, ¬ Did listed' j → ∀ q, ops[j]? = some q → j ∉ bars ∧ ∀ c : CAct, Agree ops p val a j q c → ∀ w2, (Below w'.heap.size w' w2 ∨ (ks.contains j = true ∧ K w2)) → (execOp c.eval q).run P w2 = .ok (.value (val j)) w2)
    (hi : ¬ Did listed' i → i ∉ bars ∧ ∀ c : CAct, Agree ops p val a i o c → ∀ w2, (Below w'.heap.size w' w2 ∨ (ks.contains i = true ∧ K w2)) → (execOp c.eval o).run P w2 = .ok (.value v) w2) :
    CoreG K ks P ro ops p bars Q a ord (done ++ [i]) r (upd val i v) (g.put o.dst v) listed' w' := by
  have hs := hC.ord ▸ hord
  obtain ⟨h1, h2⟩ := ord_split hs
  have hom : o ∈ ops.toList := List.mem_of_getElem? (by simpa using ho)
  have hagree : ∀ j q c, (bsAt p.bs j).testBit i = false → Agree ops p (upd val i v) a j q c → Agree ops p val a j q c := by
    intro j q c hji hA t ht
    refine ⟨fun k q' hk hq' hd => ?_, (hA t ht).2⟩
    have := (hA t ht).1 k q' hk hq' hd
    rw [upd_ne _ _ _ (fun e => by rw [e] at hk; rw [hk] at hji; cases hji)] at this
    exact this
  refine ⟨by rw [← hC.ord]; simp, by rw [put_size]; exact hC.size, by rw [put_defers]; exact hC.defers, ?_, ?_, ?_, hcont, ?_⟩
  · intro j hj q d hq' hd
    by_cases hji : j = i
    · subst hji
      rw [ho] at hq'; cases hq'
      rw [upd_same, hd, put_same (by rw [hC.size]; exact hdst o hom d hd)]
    · rw [upd_ne _ _ _ hji, put_other (fun e => hji (hp.dsts j i q o d hq' ho hd e))]
      rcases List.mem_append.1 hj with h | h
      · exact hC.gW j h q d hq' hd
      · simp at h; exact absurd h hji
  · intro t ht
    rw [put_other (ht i (by simp) o ho)]
    exact hC.g0 t fun j hj q hq' => ht j (by simp [hj]) q hq'
  · intro j hj hnd q hq'
    rcases List.mem_append.1 hj with h | h
    · have hji := h2 j h
      rw [upd_ne _ _ _ hji.2.1]
      obtain ⟨h3, h4⟩ := hq j h hnd q hq'
      exact ⟨h3, fun c hA => h4 c (hagree j q c hji.1 hA)⟩
    · have hji : j = i := by simpa using h
      subst hji
      rw [ho] at hq'; cases hq'
      rw [upd_same]
      obtain ⟨h3, h4⟩ := hi hnd
      refine ⟨h3, fun c hA => h4 c (hagree j o c ?_ hA)⟩
      cases e : (bsAt p.bs j).testBit j with
      | false => rfl
      | true => have := mask_lt hp j o ho j e; omega
  · intro j hj q hq'
    rcases List.mem_append.1 hj with h | h
    · have hji := h2 j h
      intro x y hx
      obtain ⟨k1, k2⟩ := hC.gd j h q hq' x y hx
      refine ⟨k1, ?_⟩
      rw [upd_ne _ _ _ (fun e => ?_)]
      · exact k2
      · have := hp.guard j q x y hq' hx
        rw [e, hji.1] at this
        cases this
    · have hji : j = i := by simpa using h
      subst hji
      rw [ho] at hq'; cases hq'
      intro x y hx
      obtain ⟨k1, k2⟩ := hgv x y hx
      refine ⟨k1, ?_⟩
      rw [upd_ne _ _ _ (fun e => ?_)]
      · exact k2
      · have := hp.guard j o x y ho hx
        rw [e] at this
        have := mask_lt hp j o ho j this
        omega

/-- All that only reads is walked as far as can be. -/
theorem core_advanceG {K : World → Prop} {ks : List Nat} {ro : Option Nat} {bars : List Nat} {Q : CAct → World → Prop} {a : CAct} {ord : List Nat} {listed : Array Bool} {w : World} (hp : PlanOK ops p) (hord : ordOk p.bs bars ord = true) (hall : ∀ i, i < ops.size → i ∈ ord)
    (hnosel : ∀ o ∈ ops.toList, ∀ cs b, o.op ≠ .select cs b) (hdst : ∀ o ∈ ops.toList, ∀ d, o.dst = some d → d < a.tmps.size) :
    ∀ (rest done : List Nat) (val : Nat → Value) (g : CAct), CoreG K ks P ro ops p bars Q a ord done rest val g listed w →
      ∃ done' rest' val' g', CoreG K ks P ro ops p bars Q a ord done' rest' val' g' listed w ∧ (∀ e r, rest' = e :: r → e ∈ bars) ∧ (∀ j, j ∈ done → j ∈ done' ∧ val' j = val j) ∧ (∀ j, j ∈ done' → j ∈ bars → j ∈ done)
  | [], done, val, g, hC => ⟨done, [], val, g, hC, fun e r h => (by cases h), fun j hj => ⟨hj, rfl⟩, fun j hj _ => hj⟩
  | i :: r, done, val, g, hC => by
    obtain ⟨o, ho, hgo, hh⟩ := hC.cont
    rcases hh with ⟨hb, hh⟩ | ⟨hb, v, hv, hcont⟩
    · exact ⟨done, i :: r, val, g, hC, fun e r' h => by injection h with h1 h2; subst h1; simpa using hb, fun j hj => ⟨hj, rfl⟩, fun j hj _ => hj⟩
    · have hs := hC.ord ▸ hord
      obtain ⟨h1, h2⟩ := ord_split hs
      have hnb : i ∉ bars := by intro h; rw [show bars.contains i = true by simpa using h] at hb; cases hb
      have hA := core_agreeG hp hord hall hC ho
      have hom : o ∈ ops.toList := List.mem_of_getElem? (by simpa using ho)
      have hC' := core_putG hp hord hdst hC ho v hcont (core_gval hp hord hall hC ho hgo) hC.quiet (listed' := listed) (fun _ => ⟨hnb, fun c hAc w2 hb2 => by
        rw [execOp_congr o (hnosel o hom) (hAc.eval hA)]; exact hv w2 hb2⟩)
      obtain ⟨done', rest', val', g', k1, k2, k3, k4⟩ := core_advanceG hp hord hall hnosel hdst r (done ++ [i]) _ _ hC'
      refine ⟨done', rest', val', g', k1, k2, fun j hj => ?_, fun j hj hjb => ?_⟩
      · obtain ⟨h3, h4⟩ := k3 j (by simp [hj])
        refine ⟨h3, ?_⟩
        rw [h4, upd_ne _ _ _ (h2 j hj).2.1]
      · have := k4 j hj hjb
        rcases List.mem_append.1 this with h | h
        · exact h
        · have : j = i := by simpa using h
          subst this; exact absurd hjb hnb

structure EInvG (K : World → Prop) (ks : List Nat) (P : Program) (ro : Option Nat) (ops : Array Oper) (p : Plan) (bars : List Nat) (Q : CAct → World → Prop) (a : CAct) (ord done rest : List Nat) (val : Nat → Value) (g : CAct) (listed : Array Bool) (c : CAct) (w : World) : Prop where
  core : CoreG K ks P ro ops p bars Q a ord done rest val g listed w
  kw : K w
  head : ∀ e r, rest = e :: r → e ∈ bars
  lsize : listed.size = ops.size
  closed : ∀ i j, Did listed i → (bsAt p.bs i).testBit j = true → Did listed j
  sub : ∀ j, Did listed j → j ∈ done
  cdefers : c.defers = a.defers
  csize : c.tmps.size = a.tmps.size
  cW : ∀ j o d, Did listed j → ops[j]? = some o → o.dst = some d → c.tmps.getD d undef = val j
  c0 : ∀ t, (∀ j o, Did listed j → ops[j]? = some o → o.dst ≠ some t) → c.tmps.getD t undef = a.tmps.getD t undef

theorem gw_any {K : World → Prop} {ks : List Nat} (hKB : ∀ w w', K w → Below w.heap.size w w' → K w') (hp : PlanOK ops p) {bars ord : List Nat} (hord : ordOk p.bs bars ord = true) (hall : ∀ i, i < ops.size → i ∈ ord) (hlt : ∀ i ∈ ord, i < ops.size) (hpl : ∀ o ∈ ops.toList, plainG o = true) {a : CAct} {ro : Option Nat} {Q : Exit → CAct → World → Prop}
    (hdst : ∀ o ∈ ops.toList, ∀ d, o.dst = some d → d < a.tmps.size) :
    ∀ (fuel : Nat) (done rest : List Nat) (val : Nat → Value) (g : CAct) (listed : Array Bool) (c : CAct) (w : World), EInvG K ks P ro ops p bars (fun a' w' => Q .normal a' w') a ord done rest val g listed c w → cntF (fun i => listed.getD i false) ops.size ≤ fuel → wpAnyIn (Fz ro) 0 P .any ops Q fuel listed c w := by
  have hnosel : ∀ o ∈ ops.toList, ∀ cs b, o.op ≠ .select cs b := by
    intro o ho cs b e
    have := hpl o ho
    unfold plainG at this
    rw [e] at this
    cases this
  have fin : ∀ {done rest val g listed c w}, EInvG K ks P ro ops p bars (fun a' w' => Q .normal a' w') a ord done rest val g listed c w → Region.ready .any ops listed = [] → Q .normal c w := by
    intro done rest val g listed c w hI hr
    have hdid := ready_nil hp hI.lsize hr
    have hrest : rest = [] := by
      cases hre : rest with
      | nil => rfl
      | cons e r =>
        exfalso
        have hC := hI.core
        rw [hre] at hC
        have heo : e ∈ ord := by rw [← hC.ord]; simp
        have hs := hC.ord ▸ hord
        have := (ord_split hs).2 e (hI.sub e (hdid e (hlt e heo)))
        exact this.2.1 rfl
    subst hrest
    have hQ := hI.core.cont
    have hcg : c = g := by
      refine act_ext (by rw [hI.csize, hI.core.size]) (fun t ht => ?_) (by rw [hI.cdefers, hI.core.defers])
      by_cases hw : ∃ (j : Nat) (o : Oper), ops[j]? = some o ∧ o.dst = some t
      · obtain ⟨j, o, ho, hod⟩ := hw
        have hj := hdid j (Array.getElem?_eq_some_iff.1 ho).1
        rw [hI.cW j o t hj ho hod, hI.core.gW j (hI.sub j hj) o t ho hod]
      · rw [hI.c0 t (fun j o _ ho hod => hw ⟨j, o, ho, hod⟩), hI.core.g0 t (fun j _ o ho hod => hw ⟨j, o, ho, hod⟩)]
    rw [hcg]
    exact hQ
  intro fuel
  induction fuel with
  | zero =>
    intro done rest val g listed c w hI hcnt
    have hz : cntF (fun i => listed.getD i false) ops.size = 0 := by omega
    have hal := cntF_zero hz
    have hr : Region.ready .any ops listed = [] := by
      cases hq : Region.ready .any ops listed with
      | nil => rfl
      | cons i r =>
        have := ready_spec hI.lsize (i := i) (by rw [hq]; simp)
        exact absurd (hal i this.1) this.2.1
    exact ⟨hr, fin hI hr⟩
  | succ fuel ih =>
    intro done rest val g listed c w hI hcnt
    refine ⟨fin hI, ?_⟩
    intro i hi
    obtain ⟨hin, hnd, o, ho, hedges⟩ := ready_spec hI.lsize hi
    have hready := mask_did hp hI.closed ho hedges
    have hol : ops.toList[i]? = some o := by simpa using ho
    have hom : o ∈ ops.toList := List.mem_of_getElem? hol
    have hilt : i < listed.size := by rw [hI.lsize]; exact hin
    have hcnt' : cntF (fun j => (listed.setIfInBounds i true).getD j false) ops.size ≤ fuel := by
      have := cntF_set (f := fun j => listed.getD j false) (g := fun j => (listed.setIfInBounds i true).getD j false) (i := i) hnd (did_set_new hilt) (by
        intro j hj
        simp [Array.getD_eq_getD_getElem?, Ne.symm hj]) hin
      omega
    have hplo := hpl o hom
    have hop := hplo
    unfold plainG at hop
    have hnodef : ∀ q, o.op ≠ .defer q := by intro q e; rw [e] at hop; cases hop
    have hwantOf : GVal ops val o → Region.wanted o (yielded ops c.tmps) = true := fun hgv => by
      unfold Region.wanted
      cases hg : o.guard with
      | none => rfl
      | some xy =>
        obtain ⟨x, y⟩ := xy
        obtain ⟨⟨q, d, hq, hd⟩, hv⟩ := hgv x y hg
        have hcv := hI.cW x q d (hready x (hp.guard i o x y ho hg)) hq hd
        rw [hv] at hcv
        have hyv : yielded ops c.tmps x = some y := by
          unfold yielded
          rw [hq]
          simp only [Option.bind_some, hd]
          rw [tmps_bool hcv]
        show (yielded ops c.tmps x == some y) = true
        rw [hyv]
        exact beq_self_eq_true _
    have hclosed' : ∀ x j, Did (listed.setIfInBounds i true) x → (bsAt p.bs x).testBit j = true → Did (listed.setIfInBounds i true) j := by
      intro x j hx hj
      rcases did_set hx with rfl | hx
      · exact did_set_old (hready j hj)
      · exact did_set_old (hI.closed x j hx hj)
    have hcA : Agree ops p val a i o c := by
      intro t ht
      refine ⟨fun j q hj hq hd => hI.cW j q t (hready j hj) hq hd, fun hno => ?_⟩
      refine hI.c0 t fun j q hj hq hd => ?_
      rcases hp.reads i j o q t ho hq hd ht with rfl | hb | hb
      · exact hnd hj
      · exact hno j q hb hq hd
      · exact hnd (hI.closed j i hj hb)
    -- what stands behind the operation
    have hput : ∀ (val' : Nat → Value) (v : Value), (∀ j, Did listed j → val' j = val j) → val' i = v →
        (c.put o.dst v).defers = a.defers ∧ (c.put o.dst v).tmps.size = a.tmps.size ∧
        (∀ j q d, Did (listed.setIfInBounds i true) j → ops[j]? = some q → q.dst = some d → (c.put o.dst v).tmps.getD d undef = val' j) ∧
        (∀ t, (∀ j q, Did (listed.setIfInBounds i true) j → ops[j]? = some q → q.dst ≠ some t) → (c.put o.dst v).tmps.getD t undef = a.tmps.getD t undef) := by
      intro val' v hold hnew
      refine ⟨by rw [put_defers]; exact hI.cdefers, by rw [put_size]; exact hI.csize, ?_, ?_⟩
      · intro j q d hj hq hd
        by_cases hji : j = i
        · subst hji
          rw [ho] at hq; cases hq
          rw [hd, put_same (by rw [hI.csize]; exact hdst o hom d hd), hnew]
        · rcases did_set hj with e | hj
          · exact absurd e hji
          · rw [put_other (fun e => hji (hp.dsts j i q o d hq ho hd e)), hold j hj]
            exact hI.cW j q d hj hq hd
      · intro t ht
        rw [put_other (ht i o (did_set_new hilt) ho)]
        exact hI.c0 t (fun j q hj hq => ht j q (did_set_old hj) hq)
    by_cases hid : i ∈ done
    · -- it only reads, and is known
      obtain ⟨hnb, hq⟩ := hI.core.quiet i hid hnd o ho
      have hrun := hq c hcA w (.inl (Below.refl _ _))
      obtain ⟨e1, e2, e3, e4⟩ := hput val (val i) (fun _ _ => rfl) rfl
      have hnext : EInvG K ks P ro ops p bars (fun a' w' => Q .normal a' w') a ord done rest val g (listed.setIfInBounds i true) (c.put o.dst (val i)) w :=
        ⟨⟨hI.core.ord, hI.core.size, hI.core.defers, hI.core.gW, hI.core.g0, fun j hj hnj => hI.core.quiet j hj (fun h => hnj (did_set_old h)), hI.core.cont, hI.core.gd⟩, hI.kw, hI.head, by simp [hI.lsize], hclosed',
          fun j hj => (did_set hj).elim (fun e => e ▸ hid) (fun hj => hI.sub j hj), e1, e2, e3, e4⟩
      have hrest := ih _ _ _ _ _ _ _ hnext hcnt'
      simp only [wpOpIn, ho]
      rw [if_pos (hwantOf (hI.core.gd i hid o ho))]
      refine ⟨fun f _ => Fz_fn ro f, ?_⟩
      rw [Oper.semAt_eq _ _ _ hnodef, hrun]
      exact hrest
    · -- it is the next bar
      have hio : i ∈ ord := hall i hin
      rw [← hI.core.ord] at hio
      have hir : i ∈ rest := by
        rcases List.mem_append.1 hio with h | h
        · exact absurd h hid
        · exact h
      obtain ⟨e, r, hre⟩ : ∃ e r, rest = e :: r := by
        cases hrest : rest with
        | nil => rw [hrest] at hir; cases hir
        | cons e r => exact ⟨e, r, rfl⟩
      have heb := hI.head e r hre
      subst hre
      have hs := hI.core.ord ▸ hord
      obtain ⟨h1, h2⟩ := ord_split hs
      have hie : i = e := by
        rcases List.mem_cons.1 hir with h | h
        · exact h
        · exfalso
          have hm := (h1 i h).2.2 heb
          exact (h2 e (hI.sub e (hready e hm))).2.1 rfl
      subst hie
      obtain ⟨o', ho', hgo, hh⟩ := hI.core.cont
      rw [ho] at ho'
      have ho' := Option.some.inj ho'
      subst ho'
      have hgA := core_agreeG hp hord hall hI.core ho
      have hexec := execOp_congr o (hnosel o hom) (hcA.eval hgA)
      have hcontb : bars.contains i = true := by simpa using heb
      have after : ∀ (v : Value) (w' : World), ((lastK p.bs ks ops.size i = true ∧ K w') ∨ Below w.heap.size w w') → GWK K ks P ro ops p.bs bars (fun a' w' => Q .normal a' w') r (g.put o.dst v) w' → wpAnyIn (Fz ro) 0 P .any ops Q fuel (listed.setIfInBounds i true) (c.put o.dst v) w' := by
        intro v w' hB hcont
        have hC' : CoreG K ks P ro ops p bars (fun a' w' => Q .normal a' w') a ord (done ++ [i]) r (upd val i v) (g.put o.dst v) (listed.setIfInBounds i true) w' := by
          refine core_putG hp hord hdst hI.core ho v hcont (core_gval hp hord hall hI.core ho hgo) (fun j hj hnj q hq => ?_) (fun h => absurd (did_set_new hilt) h)
          obtain ⟨h3, h4⟩ := hI.core.quiet j hj (fun h => hnj (did_set_old h)) q hq
          rcases hB with ⟨hr, hKw⟩ | hB
          · -- all else is done, or reads the same
            have hjl : j < ops.size := (Array.getElem?_eq_some_iff.1 hq).1
            unfold lastK at hr
            rw [List.all_eq_true] at hr
            have := hr j (List.mem_range.2 hjl)
            rw [Bool.or_eq_true, Bool.or_eq_true, Bool.or_eq_true] at this
            rcases this with h | (h | h) | h
            · exact absurd (Nat.eq_of_beq_eq_true h) (fun e => hid (e ▸ hj))
            · exact absurd (did_set_old (hready j h)) hnj
            · rw [(h2 j hj).1] at h; cases h
            · exact ⟨h3, fun c' hA w2 hb2 => h4 c' hA w2 (.inr ⟨h, hb2.elim (fun q => hKB _ _ hKw q) (fun q => q.2)⟩)⟩
          · exact ⟨h3, fun c' hA w2 hb2 => h4 c' hA w2 (hb2.imp (fun q => hB.trans (q.mono hB.size)) id)⟩
        obtain ⟨done', rest', val', g', k1, k2, k3, k4⟩ := core_advanceG hp hord hall hnosel hdst r _ _ _ hC'
        obtain ⟨e1, e2, e3, e4⟩ := hput val' v (fun j hj => by
            rw [(k3 j (by simp [hI.sub j hj])).2, upd_ne _ _ _ (fun e : j = i => hnd (e ▸ hj))]) (by rw [(k3 i (by simp)).2, upd_same])
        refine ih done' rest' val' g' _ _ _ ⟨k1, hB.elim (fun q => q.2) (fun q => hKB _ _ hI.kw q), k2, by simp [hI.lsize], hclosed', fun j hj => ?_, e1, e2, e3, e4⟩ hcnt'
        rcases did_set hj with rfl | hj
        · exact (k3 j (by simp)).1
        · exact (k3 j (by simp [hI.sub j hj])).1
      simp only [wpOpIn, ho]
      rw [if_pos (hwantOf (core_gval hp hord hall hI.core ho hgo))]
      refine ⟨fun f _ => Fz_fn ro f, ?_⟩
      rw [Oper.semAt_eq _ _ _ hnodef, hexec]
      rcases hh with ⟨_, hh⟩ | ⟨hb, _⟩
      · rcases hh with ⟨f, args, hrun, hcalls⟩ | ⟨w', v, hrun, hB, hcont⟩
        · rw [hrun]
          refine ⟨fun h => absurd (Fz_depth ro h) (by omega), ?_⟩
          refine CallsIn.mono hcalls ?_
          rintro e w' ⟨v, rfl, hB, hcont⟩
          exact after v w' hB hcont
        · rcases hrun with hrun | ⟨hrun, rfl⟩
          · rw [hrun]; exact after v w' hB hcont
          · rw [hrun]; exact after undef w' hB hcont
      · rw [hcontb] at hb; cases hb

def ordCheckG (l : List Oper) (bars ord : List Nat) (nt : Nat) : Bool :=
  match planOf l.toArray with
  | none => false
  | some p => ordOk p.bs bars ord && (List.range l.length).all (fun i => ord.contains i) && ord.all (fun i => Nat.blt i l.length) && l.all plainG && l.all (fun o => match o.dst with | some d => Nat.blt d nt | none => true)

/-- **A region that draws its order and calls, by one walk.** -/
theorem wpIn_region_gwk {K : World → Prop} (ks : List Nat) (hKB : ∀ w w', K w → Below w.heap.size w w' → K w') {id : Nat} {l : List Oper} (bars ord : List Nat) (bs : List Nat) {a : CAct} {w : World} {ro : Option Nat} {Q : Exit → CAct → World → Prop} (hm : P.follows .mixedOrders = true)
    (nt : Nat) (hnt : a.tmps.size = nt) (hc : ordCheckG l bars ord nt = true) (hbs : masks l [] = bs) (hK : K w.drew) (h : GWK K ks P ro l.toArray bs bars (fun a' w' => Q .normal a' w') ord a w.drew) : (Code.region id l.toArray true).wpIn (Fz ro) 0 P Q a w := by
  subst hnt
  unfold ordCheckG at hc
  split at hc
  · cases hc
  · rename_i p hplan
    have hp := plan_ok hplan
    have hpbs : p.bs = bs := by
      have h2 := hplan
      unfold planOf at h2
      simp only [Bool.cond_eq_ite] at h2
      split at h2
      · injection h2 with h2; rw [← h2]; exact hbs
      · cases h2
    subst hpbs
    simp only [Bool.and_eq_true, List.all_eq_true] at hc
    obtain ⟨⟨⟨⟨h1, h2⟩, h3⟩, h4⟩, h5⟩ := hc
    have hall : ∀ i, i < l.toArray.size → i ∈ ord := fun i hi => by simpa using h2 i (List.mem_range.2 (by simpa using hi))
    have hlt : ∀ i ∈ ord, i < l.toArray.size := fun i hi => by simpa using (blt_iff _ _).1 (h3 i hi)
    have hpl : ∀ o ∈ l.toArray.toList, plainG o = true := by simpa using h4
    have hdst : ∀ o ∈ l.toArray.toList, ∀ d, o.dst = some d → d < a.tmps.size := fun o ho d hd => by
      have := h5 o (by simpa using ho)
      rw [hd] at this
      exact (blt_iff _ _).1 this
    have hno : ∀ i, ¬ Did (Array.replicate l.toArray.size false) i := by
      intro i hi
      unfold Did at hi
      rw [Array.getD_eq_getD_getElem?, Array.getElem?_replicate] at hi
      split at hi <;> simp at hi
    have hnosel : ∀ o ∈ l.toArray.toList, ∀ cs b, o.op ≠ .select cs b := by
      intro o ho cs b e
      have := hpl o ho
      unfold plainG at this
      rw [e] at this
      cases this
    have hC : CoreG K ks P ro l.toArray p bars (fun a' w' => Q .normal a' w') a ord [] ord (fun _ => undef) a (Array.replicate l.toArray.size false) w.drew :=
      ⟨rfl, rfl, rfl, fun j hj => (by cases hj), fun _ _ => rfl, fun j hj => (by cases hj), h, fun j hj => (by cases hj)⟩
    obtain ⟨done', rest', val', g', k1, k2, k3, k4⟩ := core_advanceG hp h1 hall hnosel hdst ord [] _ _ hC
    refine wpIn_region_any hm (gw_any hKB hp h1 hall hlt hpl hdst _ done' rest' val' g' _ _ _ ⟨k1, hK, k2, by simp, fun i j hi => absurd hi (hno i), fun j hj => absurd hj (hno j), rfl, rfl, fun j o d hj => absurd hj (hno j), fun _ _ => rfl⟩ ?_)
    have : ∀ (f : Nat → Bool) n, cntF f n ≤ n := by
      intro f n
      induction n with
      | zero => exact Nat.le_refl _
      | succ n ih => simp only [cntF]; split <;> omega
    exact this _ _
end
end Go.Eng
namespace Go.Eng
open Go.RowKit Go.Num Go.Proofs Go.Proofs.YtepakfjilnpodaaGreatDoor

def GV (K : World → Prop) (ks : List Nat) (P : Program) (nt : Nat) (ops : Array Oper) (bs bars : List Nat) (Q : CAct → World → Prop) (r : List Nat) (a : CAct) (ov : List (Tmp × Value)) (w : World) : Prop :=
  a.tmps.size = nt → keysOk nt ov → GWK K ks P none ops bs bars Q r (putAll a ov) w
/-- A guard holds. -/
def GOk (ops : Array Oper) (a : CAct) (ov : List (Tmp × Value)) : Option (Nat × Bool) → Prop
  | none => True
  | some (x, y) => ∃ q d, ops[x]? = some q ∧ q.dst = some d ∧ lookO a ov d = .bool y
section
variable {K : World → Prop} {ks : List Nat} {P : Program} {nt : Nat} {ops : Array Oper} {bs bars r : List Nat} {i : Nat} {a : CAct} {ov : List (Tmp × Value)} {w : World} {Q : CAct → World → Prop} {o : Oper} {gd : Option (Nat × Bool)}
theorem gon_of (hk : keysOk a.tmps.size ov) (h : GOk ops a ov o.guard) : GOn ops (putAll a ov) o := by
  intro x y hg
  rw [hg] at h
  obtain ⟨q, d, h1, h2, h3⟩ := h
  exact ⟨q, d, h1, h2, by rw [putAll_tmp a ov hk]; exact h3⟩
theorem GV.read {d : Tmp} (v : Value) (ho : ops[i]? = some o) (hg : GOk ops a ov o.guard) (hdst : o.dst = some d) (hb : bars.contains i = false) (hd : Nat.blt d nt = true)
    (hrun : ∀ w', (Below w.heap.size w w' ∨ (ks.contains i = true ∧ K w')) → (execOp (look a ov) o).run P w' = .ok (.value v) w') (h : GV K ks P nt ops bs bars Q r a ((d, v) :: ov) w) : GV K ks P nt ops bs bars Q (i :: r) a ov w := by
  intro hn hk
  refine ⟨o, ho, gon_of (by rw [hn]; exact hk) hg, .inr ⟨hb, v, fun w' hw' => ?_, ?_⟩⟩
  · rw [putAll_eval a ov (by rw [hn]; exact hk)]; exact hrun w' hw'
  · rw [hdst]; exact h hn (hk.cons hd)
theorem GV.mv {x : Operand} {v : Value} {d : Tmp} {ty : TypeId} {ps : String} {af : Array Edge} (ho : ops[i]? = some { op := .move x, dst := some d, type := ty, pos := ps, after := af, guard := gd }) (hg : GOk ops a ov gd) (hb : bars.contains i = false) (hd : Nat.blt d nt = true)
    (hx : look a ov x = v) (h : GV K ks P nt ops bs bars Q r a ((d, v) :: ov) w) : GV K ks P nt ops bs bars Q (i :: r) a ov w :=
  GV.read v ho hg rfl hb hd (fun w' _ => by subst hx; rfl) h
theorem GV.pick {c x y : Operand} {b : Bool} {v : Value} {d : Tmp} {ty : TypeId} {ps : String} {af : Array Edge} (hc : look a ov c = .bool b) (hx : look a ov (bif b then x else y) = v) (ho : ops[i]? = some { op := .pick c x y, dst := some d, type := ty, pos := ps, after := af, guard := gd }) (hg : GOk ops a ov gd) (hb : bars.contains i = false) (hd : Nat.blt d nt = true)
    (h : GV K ks P nt ops bs bars Q r a ((d, v) :: ov) w) : GV K ks P nt ops bs bars Q (i :: r) a ov w :=
  GV.read v ho hg rfl hb hd (fun w' _ => by
    subst hx
    cases b <;> simp [execOp, hc, go_sem]) h
theorem GV.neq {t t2 : TypeId} {x y : Operand} {p q : Int} {b : Bool} {d : Tmp} {ty : TypeId} {ps : String} {af : Array Edge} (hpq : decide (p ≠ q) = b)
    (ho : ops[i]? = some { op := .binOp .neq t x y t2, dst := some d, type := ty, pos := ps, after := af, guard := gd }) (hg : GOk ops a ov gd) (hb : bars.contains i = false) (hd : Nat.blt d nt = true)
    (hx : look a ov x = .int .i64 p) (hy : look a ov y = .int .i64 q) (h : GV K ks Tryz.prog nt ops bs bars Q r a ((d, .bool b) :: ov) w) : GV K ks Tryz.prog nt ops bs bars Q (i :: r) a ov w :=
  GV.read _ ho hg rfl hb hd (fun w' _ => by
    rw [← hpq]
    simp [execOp, hx, hy, binOp, eqGuard, Op.intCmp, Result.andThen, Sem.run_bind, Sem.run_pure, go_sem]
    rfl) h
theorem GV.neqS {t t2 : TypeId} {x y : Operand} {p : ByteArray} {d : Tmp} {ty : TypeId} {ps : String} {af : Array Edge} (hp : (p != p) = false)
    (ho : ops[i]? = some { op := .binOp .neq t x y t2, dst := some d, type := ty, pos := ps, after := af, guard := gd }) (hg : GOk ops a ov gd) (hb : bars.contains i = false) (hd : Nat.blt d nt = true)
    (hx : look a ov x = .string p) (hy : look a ov y = .string p) (h : GV K ks P nt ops bs bars Q r a ((d, .bool false) :: ov) w) : GV K ks P nt ops bs bars Q (i :: r) a ov w :=
  GV.read _ ho hg rfl hb hd (fun w' _ => by
    unfold execOp
    simp only [hx, hy]
    simp [eqGuard, binOp, Op.stringOp, Sem.run_pure, hp]) h
theorem GV.ldn {t : TypeId} {x : Operand} {p : Addr} {n : Nat} (cs : List Value) {d : Tmp} {ty : TypeId} {ps : String} {af : Array Edge} (hL : LoadMany P t n) (hc : ∀ j v, cs[j]? = some v → w.cell? (p.add j) = some v) (hks : ks.contains i = false) (ho : ops[i]? = some { op := .load t x, dst := some d, type := ty, pos := ps, after := af, guard := gd }) (hg : GOk ops a ov gd) (hb : bars.contains i = false) (hd : Nat.blt d nt = true)
    (hn : cs.length = n) (h0 : 0 < n) (hx : look a ov x = .pointer (some p)) (h : GV K ks P nt ops bs bars Q r a ((d, .agg cs.toArray) :: ov) w) : GV K ks P nt ops bs bars Q (i :: r) a ov w :=
  GV.read _ ho hg rfl hb hd (fun w' hb' => by
    rcases hb' with hb' | ⟨q, _⟩
    · have hp : p.block < w.heap.size := by
        have := World.block_lt_of_cell? _ _ (hc 0 _ (List.getElem?_eq_getElem (by omega)))
        rwa [add_block] at this
      have h1 := hL p cs w' hn (fun j v hj => (hb'.cell (p := p.add j) (by rw [add_block]; exact hp)).trans (hc j v hj))
      simp [execOp, hx, h1]
    · rw [hks] at q; cases q) h
/-- A call. -/
theorem GV.call {f : FuncId} {fn : Func} {xs : Array Operand} {ts : Array TypeId} (args : List Value) {d : Tmp} {ty : TypeId} {ps : String} {af : Array Edge} {R : Value → World → Prop} {f' : FuncId} (hfn : P.funcs[f]? = some fn) (hbody : fn.body.isSome = true) (hN : NamesOK P)
    (ho : ops[i]? = some { op := .call { callee := .value (.func f), args := xs, argTypes := ts }, dst := some d, type := ty, pos := ps, after := af, guard := gd }) (hg : GOk ops a ov gd) (hb : bars.contains i = true) (hd : Nat.blt d nt = true)
    (ha : xs.toList.map (look a ov) = args) (hf : f = f') (hcall : CallsIn Fence.wide 0 P f' args.toArray w fun e w' => ∃ v, e = .returned v ∧ R v w' ∧ Below w.heap.size w w')
    (h : ∀ v w', R v w' → Below w.heap.size w w' → GV K ks P nt ops bs bars Q r a ((d, v) :: ov) w') : GV K ks P nt ops bs bars Q (i :: r) a ov w := by
  intro hn hk
  subst hf
  have hk' : keysOk a.tmps.size ov := by rw [hn]; exact hk
  refine ⟨_, ho, gon_of hk' hg, .inl ⟨hb, .inl ⟨f, args.toArray, ?_, hcall.mono ?_⟩⟩⟩
  · have ha' : xs.map (putAll a ov).eval = args.toArray := by rw [putAll_eval a ov hk']; subst ha; apply Array.ext'; rw [Array.toList_map]
    rw [← ha']
    have hbn : fn.body ≠ none := by intro q; rw [q] at hbody; simp at hbody
    have hev : (putAll a ov).eval (.func f) = .func (.func f) #[] #[] := rfl
    unfold execOp
    simp only [resolve, hev, Deferred.ofValue, Sem.run_bind, Sem.run_pure, Result.andThen_ok, invoke, callFunc, run_program, hfn, hN f fn hfn hbody, Bool.false_eq_true, if_false]
    have : fn.body.isNone = false := by cases hq : fn.body <;> simp_all
    rw [this]
    simp
  · rintro e w' ⟨v, rfl, hR, hB⟩
    exact ⟨v, rfl, .inr hB, h v w' hR hB hn (hk.cons hd)⟩
theorem GV.done (h : Q (putAll a ov) w) : GV K ks P nt ops bs bars Q [] a ov w := fun _ _ => h
/-- **A region that draws its order, calls and has guards that hold.** -/
theorem wpIn_region_gv {id : Nat} {l : List Oper} (bars ord : List Nat) (bs : List Nat) {a : CAct} {w : World} {ro : Option Nat} {Q : Exit → CAct → World → Prop} (hm : P.follows .mixedOrders = true) (hro : ro = none)
    (nt : Nat) (hnt : a.tmps.size = nt) (hc : ordCheckG l bars ord nt = true) (hbs : masks l [] = bs) (h : GV (fun _ => True) [] P nt l.toArray bs bars (fun a' w' => Q .normal a' w') ord a [] w.drew) : (Code.region id l.toArray true).wpIn (Fz ro) 0 P Q a w := by
  subst hro
  exact wpIn_region_gwk [] (fun _ _ _ _ => trivial) bars ord bs hm nt hnt hc hbs trivial (h hnt (fun p hp => by cases hp))
end
section
variable {K : World → Prop} {ks : List Nat} {nt : Nat} {ops : Array Oper} {bs bars r : List Nat} {i : Nat} {a : CAct} {ov : List (Tmp × Value)} {w : World} {Q : CAct → World → Prop} {o : Oper} {gd : Option (Nat × Bool)}
theorem GV.lss {t t2 : TypeId} {x y : Operand} {p q : Int} {b : Bool} {d : Tmp} {ty : TypeId} {ps : String} {af : Array Edge} (hpq : decide (p < q) = b)
    (ho : ops[i]? = some { op := .binOp .lss t x y t2, dst := some d, type := ty, pos := ps, after := af, guard := gd }) (hg : GOk ops a ov gd) (hb : bars.contains i = false) (hd : Nat.blt d nt = true)
    (hx : look a ov x = .int .i64 p) (hy : look a ov y = .int .i64 q) (h : GV K ks Tryz.prog nt ops bs bars Q r a ((d, .bool b) :: ov) w) : GV K ks Tryz.prog nt ops bs bars Q (i :: r) a ov w :=
  GV.read _ ho hg rfl hb hd (fun w' _ => by
    rw [← hpq]
    simp [execOp, hx, hy, binOp, eqGuard, Op.intCmp, Result.andThen, Sem.run_bind, Sem.run_pure, go_sem]) h
theorem GV.gtr {t t2 : TypeId} {x y : Operand} {p q : Int} {b : Bool} {d : Tmp} {ty : TypeId} {ps : String} {af : Array Edge} (hpq : decide (p > q) = b)
    (ho : ops[i]? = some { op := .binOp .gtr t x y t2, dst := some d, type := ty, pos := ps, after := af, guard := gd }) (hg : GOk ops a ov gd) (hb : bars.contains i = false) (hd : Nat.blt d nt = true)
    (hx : look a ov x = .int .i64 p) (hy : look a ov y = .int .i64 q) (h : GV K ks Tryz.prog nt ops bs bars Q r a ((d, .bool b) :: ov) w) : GV K ks Tryz.prog nt ops bs bars Q (i :: r) a ov w :=
  GV.read _ ho hg rfl hb hd (fun w' _ => by
    rw [← hpq]
    simp [execOp, hx, hy, binOp, eqGuard, Op.intCmp, Result.andThen, Sem.run_bind, Sem.run_pure, go_sem]) h
theorem GV.geq {t t2 : TypeId} {x y : Operand} {p q : Int} {b : Bool} {d : Tmp} {ty : TypeId} {ps : String} {af : Array Edge} (hpq : decide (p ≥ q) = b)
    (ho : ops[i]? = some { op := .binOp .geq t x y t2, dst := some d, type := ty, pos := ps, after := af, guard := gd }) (hg : GOk ops a ov gd) (hb : bars.contains i = false) (hd : Nat.blt d nt = true)
    (hx : look a ov x = .int .i64 p) (hy : look a ov y = .int .i64 q) (h : GV K ks Tryz.prog nt ops bs bars Q r a ((d, .bool b) :: ov) w) : GV K ks Tryz.prog nt ops bs bars Q (i :: r) a ov w :=
  GV.read _ ho hg rfl hb hd (fun w' _ => by
    rw [← hpq]
    simp [execOp, hx, hy, binOp, eqGuard, Op.intCmp, Result.andThen, Sem.run_bind, Sem.run_pure, go_sem]) h
theorem GV.eql {t t2 : TypeId} {x y : Operand} {p q : Int} {b : Bool} {d : Tmp} {ty : TypeId} {ps : String} {af : Array Edge} (hpq : decide (p = q) = b)
    (ho : ops[i]? = some { op := .binOp .eql t x y t2, dst := some d, type := ty, pos := ps, after := af, guard := gd }) (hg : GOk ops a ov gd) (hb : bars.contains i = false) (hd : Nat.blt d nt = true)
    (hx : look a ov x = .int .i64 p) (hy : look a ov y = .int .i64 q) (h : GV K ks Tryz.prog nt ops bs bars Q r a ((d, .bool b) :: ov) w) : GV K ks Tryz.prog nt ops bs bars Q (i :: r) a ov w :=
  GV.read _ ho hg rfl hb hd (fun w' _ => by
    rw [← hpq]
    simp [execOp, hx, hy, binOp, eqGuard, Op.intCmp, Result.andThen, Sem.run_bind, Sem.run_pure, go_sem]
    rfl) h
theorem GV.sub {t t2 : TypeId} {x y : Operand} {p q z : Int} {d : Tmp} {ty : TypeId} {ps : String} {af : Array Edge} (hu : Tryz.prog.underlying t = some (.int .i64)) (hz : wrap64 (p - q) = z)
    (ho : ops[i]? = some { op := .binOp .sub t x y t2, dst := some d, type := ty, pos := ps, after := af, guard := gd }) (hg : GOk ops a ov gd) (hb : bars.contains i = false) (hd : Nat.blt d nt = true)
    (hx : look a ov x = .int .i64 p) (hy : look a ov y = .int .i64 q) (h : GV K ks Tryz.prog nt ops bs bars Q r a ((d, .int .i64 z) :: ov) w) : GV K ks Tryz.prog nt ops bs bars Q (i :: r) a ov w :=
  GV.read _ ho hg rfl hb hd (fun w' _ => by
    rw [← hz]
    simp [execOp, hx, hy, binOp, eqGuard, hu, Result.andThen, Sem.run_bind, Sem.run_pure, go_sem]
    unfold wrap64
    exact IntKind.wrap_i64 _) h
theorem GV.mul {t t2 : TypeId} {x y : Operand} {p q z : Int} {d : Tmp} {ty : TypeId} {ps : String} {af : Array Edge} (hu : Tryz.prog.underlying t = some (.int .i64)) (hz : wrap64 (p * q) = z)
    (ho : ops[i]? = some { op := .binOp .mul t x y t2, dst := some d, type := ty, pos := ps, after := af, guard := gd }) (hg : GOk ops a ov gd) (hb : bars.contains i = false) (hd : Nat.blt d nt = true)
    (hx : look a ov x = .int .i64 p) (hy : look a ov y = .int .i64 q) (h : GV K ks Tryz.prog nt ops bs bars Q r a ((d, .int .i64 z) :: ov) w) : GV K ks Tryz.prog nt ops bs bars Q (i :: r) a ov w :=
  GV.read _ ho hg rfl hb hd (fun w' _ => by
    rw [← hz]
    simp [execOp, hx, hy, binOp, eqGuard, hu, Result.andThen, Sem.run_bind, Sem.run_pure, go_sem]
    unfold wrap64
    exact IntKind.wrap_i64 _) h
theorem GV.not {t : TypeId} {x : Operand} {b : Bool} {d : Tmp} {ty : TypeId} {ps : String} {af : Array Edge}
    (ho : ops[i]? = some { op := .unOp .not t x, dst := some d, type := ty, pos := ps, after := af, guard := gd }) (hg : GOk ops a ov gd) (hb : bars.contains i = false) (hd : Nat.blt d nt = true)
    (hx : look a ov x = .bool b) (h : GV K ks Tryz.prog nt ops bs bars Q r a ((d, .bool (!b)) :: ov) w) : GV K ks Tryz.prog nt ops bs bars Q (i :: r) a ov w :=
  GV.read _ ho hg rfl hb hd (fun w' _ => by
    simp [execOp, hx, go_sem]) h
theorem GV.ld1 {t : TypeId} {x : Operand} {p : Addr} {v : Value} {d : Tmp} {ty : TypeId} {ps : String} {af : Array Edge} (hL : LoadOne Tryz.prog t) (hc : w.cell? p = some v) (hks : ks.contains i = false) (ho : ops[i]? = some { op := .load t x, dst := some d, type := ty, pos := ps, after := af, guard := gd }) (hg : GOk ops a ov gd) (hb : bars.contains i = false) (hd : Nat.blt d nt = true)
    (hx : look a ov x = .pointer (some p)) (h : GV K ks Tryz.prog nt ops bs bars Q r a ((d, v) :: ov) w) : GV K ks Tryz.prog nt ops bs bars Q (i :: r) a ov w :=
  GV.read _ ho hg rfl hb hd (fun w' hb' => by
    rcases hb' with hb' | ⟨q, _⟩
    · have h1 := hL p v w' ((hb'.cell (World.block_lt_of_cell? _ _ hc)).trans hc)
      simp [execOp, hx, h1]
    · rw [hks] at q; cases q) h
end
end Go.Eng
namespace Go.Num
open Go.Eng Go.Shelf Go.RowKit Go.Sort Go.Proofs Go.Proofs.YtepakfjilnpodaaGreatDoor

def sq1 : Code → Code
  | .seq a _ => a
  | c => c
def sq2 : Code → Code
  | .seq _ b => b
  | c => c
def cX : Code → Code
  | .cond _ a _ => a
  | c => c
noncomputable def b14 : Code := Tryz.f14.body.getD .skip
theorem body14 : Tryz.f14.body = some (.seq (sq1 b14) (.seq (.seq (sq1 (sq1 (sq2 b14))) (.cond (.tmp 41) (cX (sq2 (sq1 (sq2 b14)))) .skip)) (sq2 (sq2 b14)))) := by kernel_rfl
def regOps : Code → List Oper
  | .region _ l _ => l.toList
  | _ => []
theorem reg14 : sq1 (sq1 (sq2 b14)) = .region 1 (regOps (sq1 (sq1 (sq2 b14)))).toArray true := by kernel_rfl
theorem keysOk_of {nt : Nat} {ov : List (Tmp × Value)} (h : (ov.all fun p => Nat.blt p.1 nt) = true) : keysOk nt ov := fun p hp => Nat.le_of_ble_eq_true (List.all_eq_true.1 h p hp)
theorem putAll_defers (a : CAct) : ∀ ov, (putAll a ov).defers = a.defers
  | [] => rfl
  | (_, _) :: r => putAll_defers a r
theorem addr_add0 (b j : Nat) : (⟨b, 0, none⟩ : Addr).add j = ⟨b, j, none⟩ := by unfold Addr.add; split <;> simp_all
theorem one_le : RatLe ((1 : Int) : Rat) 100000 := (ratLe_int (z := 1) (L := 1) (by decide) (by decide)).mono (by decide)
theorem lm27 : LoadMany Tryz.prog 27 3 := loadMany_of (by kernel_rfl) (by kernel_rfl)
theorem l3i : LoadOne Tryz.prog 3 := loadOne_of (by kernel_rfl)

set_option maxRecDepth 100000 in
set_option maxHeartbeats 8000000 in
theorem ruin_mid {w : World} {env : List (Leaf rs1)} {p : Rat} {k n : Int} (he0 : env[0]? = some (leafR1 p)) (he1 : env[1]? = some (leafI1 k)) (he2 : env[2]? = some (leafI1 n)) (htab : Pow10 w) (hshort : shortB p = true) (hsgn : sgnR p = 1) (hcmp : sgnR (p - (1 : Int)) = -1) (hn1 : 1 ≤ n) (hn2 : n ≤ 30) (hk1 : 0 ≤ k) (hk2 : k ≤ n) (hpL : RatLe p 100000)
    (c : CAct) (w1 : World) (hw1 : Below w.heap.size w w1) (hd : c.defers = []) (hsz : c.tmps.size = 54) (hm : AMsOK (Gs env) w1 [.cell (tg 0), .one (tg 1), .one (tg 2)] ([3, 4, 5].map fun j => c.tmps.getD j undef)) :
    (Code.seq (sq1 (sq1 (sq2 b14))) (.cond (.tmp 41) (cX (sq2 (sq1 (sq2 b14)))) .skip)).wpIn Fence.wide 0 Tryz.prog (fun e c' w2 => e = .normal ∧ c'.defers = [] ∧ c'.tmps.size = c.tmps.size ∧ (∀ j, j < 9 → c'.tmps.getD j undef = c.tmps.getD j undef) ∧ Below w1.heap.size w1 w2) c w1 := by
  obtain ⟨v3, r, e, hm3, v4, r2, e2, hm4, v5, r3, e3, hm5, e4⟩ := hm
  have e4 : r3 = [] := e4
  subst e4
  subst e3
  subst e2
  simp only [List.map_cons, List.map_nil, List.cons.injEq, and_true] at e
  obtain ⟨h3, h4, h5⟩ := e
  obtain ⟨b3, rfl, hl3, m, x0, x1, x2, _, c0, c1, c2, hp, _⟩ := hm3
  obtain ⟨b4, u4, rfl, hl4, hc4, hi4⟩ := hm4
  obtain ⟨b5, u5, rfl, hl5, hc5, hi5⟩ := hm5
  have hr : RatAt w1 (.agg #[x0, x1, x2]) p := leaf_un1 he0 hp
  have hi4 : Leaf.at env (.leaf 1) u4 w1 := hi4
  have hi5 : Leaf.at env (.leaf 2) u5 w1 := hi5
  unfold Leaf.at at hi4 hi5
  simp only [he1] at hi4
  simp only [he2] at hi5
  have hi4 : u4 = .int .i64 k := hi4
  have hi5 : u5 = .int .i64 n := hi5
  subst hi4
  subst hi5
  have HTab := Hid.intro htab
  have hc3 : ∀ w', Below w1.heap.size w1 w' → ∀ (j : Nat) (v : Value), [x0, x1, x2][j]? = some v → w'.cell? ((⟨b3, 0, none⟩ : Addr).add j) = some v := by
    intro w' hb j v hj
    rw [addr_add0, hb.cell (p := ⟨b3, j, none⟩) hl3]
    match j, hj with
    | 0, hj => rw [← hj]; exact c0
    | 1, hj => rw [← hj]; exact c1
    | 2, hj => rw [← hj]; exact c2
    | j + 3, hj => simp at hj
  refine wpIn_seq (wpIn_mono (F := Fence.wide) (Q := fun e c' w2 => e = .normal ∧ c'.defers = [] ∧ c'.tmps.size = c.tmps.size ∧ (∀ j, j < 9 → c'.tmps.getD j undef = c.tmps.getD j undef) ∧ c'.tmps.getD 41 undef = .bool false ∧ Below w1.heap.size w1 w2) ?reg ?rest)
  case rest =>
    rintro e c2 w2 ⟨rfl, q1, q2, q3, q4, q5⟩
    refine wpIn_cond (t := false) q4 ?_
    simp only [Bool.false_eq_true, if_false]
    exact wpIn_skip ⟨rfl, q1, q2, q3, q5⟩
  rw [reg14]
  have hB : Below w1.heap.size w1 w1.drew := drew_below w1
  refine wpIn_region_gv (ro := none) [1, 5, 10, 11] (List.range 31) [0, 1, 3, 7, 15, 31, 63, 127, 255, 511, 511, 2047, 4095, 8191, 16383, 32767, 65535, 131071, 262143, 524287, 1048575, 2097151, 4194303, 8388607, 16777215, 33554431, 67108863, 134217727, 134217727, 536870911, 1073741823] follows rfl 54 hsz (by kernel_rfl) (by kernel_rfl) ?_
  generalize w1.drew = wd at hB ⊢
  refine GV.ldn (p := ⟨b3, 0, none⟩) [x0, x1, x2] lm27 (hc3 _ hB) rfl rfl trivial rfl rfl rfl (by decide) h3 ?_
  refine GV.call (R := fun v _ => v = .bool true) [.agg #[x0, x1, x2]] Tryz.func62 rfl namesOK rfl trivial rfl rfl rfl rfl ((isShort_calls _ _ p (hr.below hB) hpL ((HTab.out.below hw1).below hB)).mono ?c1) ?_
  case c1 =>
    rintro e w' ⟨rfl, hb⟩
    exact ⟨_, rfl, by rw [hshort], hb⟩
  rintro v1 w2 rfl hB2
  replace hB := hB.trans (hB2.mono hB.size)
  clear hB2
  refine GV.not (b := true) rfl trivial rfl rfl rfl ?_
  refine GV.mv (v := .bool false) rfl trivial rfl rfl rfl ?_
  refine GV.ldn (p := ⟨b3, 0, none⟩) [x0, x1, x2] lm27 (hc3 _ hB) rfl rfl ⟨_, _, rfl, rfl, rfl⟩ rfl rfl rfl (by decide) h3 ?_
  refine GV.call (R := fun v _ => v = .int .i64 1) [.agg #[x0, x1, x2]] Tryz.func25 rfl namesOK rfl ⟨_, _, rfl, rfl, rfl⟩ rfl rfl rfl rfl ((sign_calls _ _ p (hr.below hB)).mono ?c2) ?_
  case c2 =>
    rintro e w' ⟨rfl, hb⟩
    exact ⟨_, rfl, by rw [hsgn], hb⟩
  rintro v2 w3 rfl hB2
  replace hB := hB.trans (hB2.mono hB.size)
  clear hB2
  refine GV.eql (p := 1) (q := 0) (b := false) rfl rfl ⟨_, _, rfl, rfl, rfl⟩ rfl rfl rfl rfl ?_
  refine GV.pick (b := false) (v := .bool false) rfl rfl rfl trivial rfl rfl ?_
  refine GV.mv (v := .bool false) rfl trivial rfl rfl rfl ?_
  refine GV.ldn (p := ⟨b3, 0, none⟩) [x0, x1, x2] lm27 (hc3 _ hB) rfl rfl ⟨_, _, rfl, rfl, rfl⟩ rfl rfl rfl (by decide) h3 ?_
  refine GV.call (R := fun v w' => RatAt w' v (1 : Int)) [.int .i64 1] Tryz.func16 rfl namesOK rfl ⟨_, _, rfl, rfl, rfl⟩ rfl rfl rfl rfl ((ofN_calls _ 1 (by decide) (by decide)).mono ?c3) ?_
  case c3 =>
    rintro e w' ⟨v', rfl, hr', hb⟩
    exact ⟨_, rfl, hr', hb⟩
  rintro v3 w4 hr3 hB2
  replace hB := hB.trans (hB2.mono hB.size)
  clear hB2
  refine GV.call (R := fun v _ => v = .int .i64 (-1)) [.agg #[x0, x1, x2], v3] Tryz.func15 rfl namesOK rfl ⟨_, _, rfl, rfl, rfl⟩ rfl rfl rfl rfl ((cmpR_calls _ _ _ p (1 : Int) 100000 (hr.below hB) hr3 hpL one_le (by decide)).mono ?c4) ?_
  case c4 =>
    rintro e w' ⟨rfl, hb⟩
    exact ⟨_, rfl, by rw [hcmp], hb⟩
  rintro v4 w5 rfl hB2
  replace hB := hB.trans (hB2.mono hB.size)
  clear hB2 hr3
  refine GV.geq (p := -1) (q := 0) (b := false) rfl rfl ⟨_, _, rfl, rfl, rfl⟩ rfl rfl rfl rfl ?_
  refine GV.pick (b := false) (v := .bool false) rfl rfl rfl trivial rfl rfl ?_
  refine GV.mv (v := .bool false) rfl trivial rfl rfl rfl ?_
  refine GV.ld1 (p := ⟨b5, 0, none⟩) (v := .int .i64 n) l3i ((hB.cell (p := ⟨b5, 0, none⟩) hl5).trans hc5) rfl rfl ⟨_, _, rfl, rfl, rfl⟩ rfl rfl h5 ?_
  refine GV.lss (p := n) (q := 1) (b := false) (decide_eq_false (by omega)) rfl ⟨_, _, rfl, rfl, rfl⟩ rfl rfl rfl rfl ?_
  refine GV.pick (b := false) (v := .bool false) rfl rfl rfl trivial rfl rfl ?_
  refine GV.mv (v := .bool false) rfl trivial rfl rfl rfl ?_
  refine GV.ld1 (p := ⟨b5, 0, none⟩) (v := .int .i64 n) l3i ((hB.cell (p := ⟨b5, 0, none⟩) hl5).trans hc5) rfl rfl ⟨_, _, rfl, rfl, rfl⟩ rfl rfl h5 ?_
  refine GV.gtr (p := n) (q := 30) (b := false) (decide_eq_false (by omega)) rfl ⟨_, _, rfl, rfl, rfl⟩ rfl rfl rfl rfl ?_
  refine GV.pick (b := false) (v := .bool false) rfl rfl rfl trivial rfl rfl ?_
  refine GV.mv (v := .bool false) rfl trivial rfl rfl rfl ?_
  refine GV.ld1 (p := ⟨b4, 0, none⟩) (v := .int .i64 k) l3i ((hB.cell (p := ⟨b4, 0, none⟩) hl4).trans hc4) rfl rfl ⟨_, _, rfl, rfl, rfl⟩ rfl rfl h4 ?_
  refine GV.lss (p := k) (q := 0) (b := false) (decide_eq_false (by omega)) rfl ⟨_, _, rfl, rfl, rfl⟩ rfl rfl rfl rfl ?_
  refine GV.pick (b := false) (v := .bool false) rfl rfl rfl trivial rfl rfl ?_
  refine GV.mv (v := .bool false) rfl trivial rfl rfl rfl ?_
  refine GV.ld1 (p := ⟨b4, 0, none⟩) (v := .int .i64 k) l3i ((hB.cell (p := ⟨b4, 0, none⟩) hl4).trans hc4) rfl rfl ⟨_, _, rfl, rfl, rfl⟩ rfl rfl h4 ?_
  refine GV.ld1 (p := ⟨b5, 0, none⟩) (v := .int .i64 n) l3i ((hB.cell (p := ⟨b5, 0, none⟩) hl5).trans hc5) rfl rfl ⟨_, _, rfl, rfl, rfl⟩ rfl rfl h5 ?_
  refine GV.gtr (p := k) (q := n) (b := false) (decide_eq_false (by omega)) rfl ⟨_, _, rfl, rfl, rfl⟩ rfl rfl rfl rfl ?_
  refine GV.pick (b := false) (v := .bool false) rfl rfl rfl trivial rfl rfl ?_
  refine GV.done ?_
  refine ⟨rfl, ?_, ?_, ?_, ?_, ?_⟩
  · exact (putAll_defers _ _).trans hd
  · exact putAll_size _ _
  · intro j hj
    refine (putAll_tmp _ _ (hsz ▸ keysOk_of rfl) j).trans ?_
    match j, hj with
    | 0, _ | 1, _ | 2, _ | 3, _ | 4, _ | 5, _ | 6, _ | 7, _ | 8, _ => rfl
  · exact (putAll_tmp _ _ (hsz ▸ keysOk_of rfl) 41).trans rfl
  · exact hB

theorem kept_le {q : Rat} (h : RatLe q 2000) : Kept1 q = true := by
  unfold Kept1 SmallN
  have h1 := nDigits_pow (k := 2000) (by decide) h.1
  have h2 := nDigits_pow (k := 2000) (by decide) h.2
  rw [Bool.and_eq_true]
  refine ⟨decide_eq_true (by omega), decide_eq_true ?_⟩
  split
  · have := nDigits_9 (show 0 < 1000000000 by decide); omega
  · omega
theorem ratLe_one : RatLe (1 : Rat) 1 := ratLe_int (z := 1) (L := 1) (by decide) (by decide)
theorem ratLe_pw {r : Rat} {L : Nat} (h : RatLe r L) : ∀ n, RatLe (pw r n) (1 + n * L)
  | 0 => by rw [Nat.zero_mul]; exact ratLe_one
  | n + 1 => by
    have := ratLe_mul (ratLe_pw h n) h
    rw [Nat.add_mul, Nat.one_mul, ← Nat.add_assoc]
    exact this
theorem sumL_two (x y : Rat) : sumL [x, y] = x + y := by
  show 0 + x + y = x + y
  rw [Rat.zero_add]
theorem prodL_two (x y : Rat) : prodL [x, y] = x * y := by
  show 1 * x * y = x * y
  rw [Rat.one_mul]
theorem zero_le' : RatLe (0 : Rat) 1 := ratLe_zero (by decide)
section
variable {w0 : World} {env : List (Leaf rs1)} {r : List EntryM} {rt : List Entry}
theorem toldM_sum2 {i j k : Nat} {x y z : Rat} {L : Nat} (hi : env[i]? = some (leafR1 x)) (hj : env[j]? = some (leafR1 y)) (hk : env[k]? = some (leafR1 z)) (hz : x + y = z) (hx : RatLe x L) (hy : RatLe y L) (hL : L ≤ 900) (h0 : 0 < L) (htab : Pow10 w0) (K : TM1 w0 env r) :
    TM1 w0 env ((65, [.row (A2 (tg i) (tg j))], A1 (tg k)) :: r) := by
  have h2 : ∀ m, RatLe (sumL ([x, y].take m)) (L + L + 1) := by
    intro m
    match m with
    | 0 => exact zero_le'.mono (by omega)
    | 1 => exact (by show RatLe (0 + x) _; rw [Rat.zero_add]; exact hx.mono (by omega))
    | m + 2 =>
      have e : [x, y].take (m + 2) = [x, y] := by simp
      rw [e, sumL_two]
      exact ratLe_add hx hy
  refine toldM_sum (l := [x, y]) (L := L + L + 1) ⟨i, x, [y], rfl, rfl, hi, j, y, [], rfl, rfl, hj, rfl⟩ (by simp) (by rw [sumL_two, hz]; exact hk) ?_ h2 (fun m => kept_le ((h2 m).mono (by omega))) (by omega) htab K
  intro q hq
  simp only [List.mem_cons, List.not_mem_nil, or_false] at hq
  rcases hq with rfl | rfl
  · exact hx.mono (by omega)
  · exact hy.mono (by omega)
theorem toldM_prod2 {i j k : Nat} {x y z : Rat} {L : Nat} (hi : env[i]? = some (leafR1 x)) (hj : env[j]? = some (leafR1 y)) (hk : env[k]? = some (leafR1 z)) (hz : x * y = z) (hx : RatLe x L) (hy : RatLe y L) (hL : L ≤ 900) (h0 : 0 < L) (htab : Pow10 w0) (K : TM1 w0 env r) :
    TM1 w0 env ((68, [.row (A2 (tg i) (tg j))], A1 (tg k)) :: r) := by
  have h2 : ∀ m, RatLe (prodL ([x, y].take m)) (L + L + 1) := by
    intro m
    match m with
    | 0 => exact ratLe_one.mono (by omega)
    | 1 => exact (by show RatLe (1 * x) _; rw [Rat.one_mul]; exact hx.mono (by omega))
    | m + 2 =>
      have e : [x, y].take (m + 2) = [x, y] := by simp
      rw [e, prodL_two]
      exact (ratLe_mul hx hy).mono (by omega)
  refine toldM_prod (l := [x, y]) (L := L + L + 1) ⟨i, x, [y], rfl, rfl, hi, j, y, [], rfl, rfl, hj, rfl⟩ (by simp) (by rw [prodL_two, hz]; exact hk) ?_ h2 (fun m => kept_le ((h2 m).mono (by omega))) (by omega) htab K
  intro q hq
  simp only [List.mem_cons, List.not_mem_nil, or_false] at hq
  rcases hq with rfl | rfl
  · exact hx.mono (by omega)
  · exact hy.mono (by omega)
theorem toldM_pow {i j k : Nat} {x z : Rat} {n L : Nat} (hi : env[i]? = some (leafI1 (n : Int))) (hj : env[j]? = some (leafR1 x)) (hk : env[k]? = some (leafR1 z)) (hz : pw x n = z) (hn : n ≤ 30) (hx : RatLe x L) (hL : L ≤ 60) (htab : Pow10 w0) (K : TM1 w0 env r) :
    TM1 w0 env ((69, [.pc (tg i), .cell (tg j)], A1 (tg k)) :: r) := by
  refine toldM_2 ⟨_, Tryz.func69, rfl⟩ (fun w v u hw hv hu => ?_) K
  obtain ⟨b, rfl, hb, m, x0, x1, x2, _, c0, c1, c2, hp, _⟩ := hu
  have hv : Leaf.at env (.leaf i) v w := hv
  unfold Leaf.at at hv
  simp only [hi] at hv
  have hv : v = .int .i64 (n : Int) := hv
  subst hv
  have hle : ∀ m, m ≤ n → RatLe (pw x m) 2000 := fun m hm => (ratLe_pw hx m).mono (by
    have : m * L ≤ 30 * 60 := Nat.mul_le_mul (by omega) hL
    omega)
  refine (power_calls w b x n 2000 c0 c1 c2 (leaf_un1 hj hp) hn (hx.mono (by omega)) hle (fun m hm => kept_le (hle m hm)) (by decide) (htab.below hw)).mono ?_
  rintro e w' ⟨v', rfl, hr, hb⟩
  rw [hz] at hr
  exact ⟨_, rfl, leaf_at1 hk hr, hb⟩
theorem told_neg1 {i k : Nat} {x z : Rat} (hi : env[i]? = some (leafR1 x)) (hk : env[k]? = some (leafR1 z)) (hz : -x = z) (K : TI1 w0 env rt) : TI1 w0 env ((66, A1 (tg i), A1 (tg k)) :: rt) := by
  refine told_e1 ⟨_, Tryz.func66, rfl⟩ (fun w v hw hv => ?_) K
  refine (neg_calls w v x (leaf_un1 hi hv)).mono ?_
  rintro e w' ⟨v', rfl, hr, hb⟩
  rw [hz] at hr
  exact ⟨_, rfl, leaf_at1 hk hr, hb⟩
theorem told_of {z : Int} {k : Nat} {x : Rat} (hk : env[k]? = some (leafR1 x)) (hz : (z : Rat) = x) (h1 : -9223372036854775808 ≤ z) (h2 : z ≤ 9223372036854775807) (K : TI1 w0 env rt) : TI1 w0 env ((16, A1 (vi z), A1 (tg k)) :: rt) := by
  refine told_e1 ⟨_, Tryz.func16, rfl⟩ (fun w v hw hv => ?_) K
  have hv : some (Value.int .i64 z) = some v := hv
  cases hv
  refine (ofN_calls w z h1 h2).mono ?_
  rintro e w' ⟨v', rfl, hr, hb⟩
  rw [hz] at hr
  exact ⟨_, rfl, leaf_at1 hk hr, hb⟩
theorem told_ofI {z : Int} {i k : Nat} {x : Rat} (hi : env[i]? = some (leafI1 z)) (hk : env[k]? = some (leafR1 x)) (hz : (z : Rat) = x) (h1 : -9223372036854775808 ≤ z) (h2 : z ≤ 9223372036854775807) (K : TI1 w0 env rt) : TI1 w0 env ((16, A1 (tg i), A1 (tg k)) :: rt) := by
  refine told_e1 ⟨_, Tryz.func16, rfl⟩ (fun w v hw hv => ?_) K
  have hv : Leaf.at env (.leaf i) v w := hv
  unfold Leaf.at at hv
  simp only [hi] at hv
  have hv : v = .int .i64 z := hv
  subst hv
  refine (ofN_calls w z h1 h2).mono ?_
  rintro e w' ⟨v', rfl, hr, hb⟩
  rw [hz] at hr
  exact ⟨_, rfl, leaf_at1 hk hr, hb⟩
theorem told_over {i j k : Nat} {x y z : Rat} {L : Nat} (hi : env[i]? = some (leafR1 x)) (hj : env[j]? = some (leafR1 y)) (hk : env[k]? = some (leafR1 z)) (hz : x / y = z) (hx : RatLe x L) (hy : RatLe y L) (hy0 : y ≠ 0) (hL : L ≤ 900) (htab : Pow10 w0) (K : TI1 w0 env rt) : TI1 w0 env ((67, A2 (tg i) (tg j), A1 (tg k)) :: rt) := by
  refine told_e2 ⟨_, Tryz.func67, rfl⟩ (fun w v u hw hv hu => ?_) K
  have hle := ratLe_div hx hy
  have hn : y.num ≠ 0 := fun e => hy0 (Rat.num_eq_zero.1 e)
  refine (wover_calls w v u x y L (leaf_un1 hi hv) (leaf_un1 hj hu) hx hy hn (by omega) (hle.mono (by omega)) (kept_le (hle.mono (by omega))) (htab.below hw)).mono ?_
  rintro e w' ⟨v', rfl, hr, hb⟩
  rw [hz] at hr
  exact ⟨_, rfl, leaf_at1 hk hr, hb⟩
theorem told_cmp1 {i j : Nat} {x y : Rat} {s : Int} {L : Nat} (hi : env[i]? = some (leafR1 x)) (hj : env[j]? = some (leafR1 y)) (hs : sgnR (x - y) = s) (hx : RatLe x L) (hy : RatLe y L) (hL : L ≤ 900) (K : TI1 w0 env rt) : TI1 w0 env ((15, A2 (tg i) (tg j), A1 (vi s)) :: rt) := by
  refine told_e2 ⟨_, Tryz.func15, rfl⟩ (fun w v u hw hv hu => ?_) K
  refine (cmpR_calls w v u x y L (leaf_un1 hi hv) (leaf_un1 hj hu) hx hy (by omega)).mono ?_
  rintro e w' ⟨rfl, hb⟩
  rw [hs]
  exact ⟨_, rfl, rfl, hb⟩
end
end Go.Num
