/-
  A region that draws its order and calls functions: one walk, each operation that only reads as early as it may come, serves every order. A r
  Conditions: see each statement.
-/
import Derived.Test.YtepakfjilnpodaaGreatDoorPAAF
import Derived.Below
import Derived.WalkKit
import Derived.Deep.MidRow
namespace Go.Eng
open Go.RowKit

/-- The stages at which an operation may come up: how many of the bars are done. -/
def stagesOf (bs bars : List Nat) (i : Nat) : List Nat :=
  (List.range (bars.length + 1)).filter fun s => (bars.take s).all (fun e => !(bsAt bs e).testBit i) && (bars.drop s).all (fun e => !(bsAt bs i).testBit e)

/-- The operation runs to v and to the world w'. -/
def DoesAt (P : Program) (o : Oper) (a : CAct) (v : Value) (w w' : World) : Prop :=
  (execOp a.eval o).run P w = .ok (.value v) w' ∨ ((execOp a.eval o).run P w = .ok .skip w' ∧ v = undef)

def StepAt (P : Program) (bs bars : List Nat) (W : Nat → World) (i : Nat) (o : Oper) (a : CAct) (v : Value) : Prop :=
  match bars.idxOf? i with
  | some s => DoesAt P o a v (W s) (W (s + 1))
  | none => ∀ s ∈ stagesOf bs bars i, DoesAt P o a v (W s) (W s)

/-- The walk of the text's order. -/
def LexAt (P : Program) (bs bars : List Nat) (W : Nat → World) (Q : CAct → Prop) : List Oper → Nat → CAct → Prop
  | [], _, a => Q a
  | o :: r, i, a => ∃ v, StepAt P bs bars W i o a v ∧ LexAt P bs bars W Q r (i + 1) (a.put o.dst v)

def putL (val : Nat → Value) : List Oper → Nat → CAct → CAct
  | [], _, a => a
  | o :: r, i, a => putL val r (i + 1) (a.put o.dst (val i))

theorem lex_val {P : Program} {bs bars : List Nat} {W : Nat → World} {Q : CAct → Prop} : ∀ {l : List Oper} {i : Nat} {a : CAct}, LexAt P bs bars W Q l i a →
    ∃ val : Nat → Value, (∀ k o, l[k]? = some o → StepAt P bs bars W (i + k) o (putL val (l.take k) i a) (val (i + k))) ∧ Q (putL val l i a)
  | [], i, a, h => ⟨fun _ => undef, fun k o hk => by simp at hk, h⟩
  | o :: r, i, a, ⟨v, h1, h2⟩ => by
    obtain ⟨val, h3, h4⟩ := lex_val h2
    have key : ∀ (l : List Oper) (j : Nat) (b : CAct), i < j → putL (fun k => if k = i then v else val k) l j b = putL val l j b := by
      intro l
      induction l with
      | nil => intro _ _ _; rfl
      | cons o l ih =>
        intro j b hj
        simp only [putL]
        rw [if_neg (by omega), ih (j + 1) _ (by omega)]
    refine ⟨fun k => if k = i then v else val k, ?_, ?_⟩
    · intro k q hk
      cases k with
      | zero =>
        simp at hk; subst hk
        simpa [putL] using h1
      | succ k =>
        have h5 := h3 k q (by simpa using hk)
        simp only [List.take_succ_cons, putL]
        rw [key _ _ _ (Nat.lt_succ_self i), show i + (k + 1) = i + 1 + k by omega, if_neg (show ¬ i + 1 + k = i by omega)]
        simpa using h5
    · simp only [putL]
      rw [key _ _ _ (Nat.lt_succ_self i)]
      simpa using h4

theorem putL_size {val : Nat → Value} : ∀ {l : List Oper} {i : Nat} {a : CAct}, (putL val l i a).tmps.size = a.tmps.size
  | [], _, _ => rfl
  | _ :: r, _, _ => by simp only [putL]; rw [putL_size (l := r), put_size]
theorem putL_defers {val : Nat → Value} : ∀ {l : List Oper} {i : Nat} {a : CAct}, (putL val l i a).defers = a.defers
  | [], _, _ => rfl
  | _ :: r, _, _ => by simp only [putL]; rw [putL_defers (l := r), put_defers]
theorem putL_other {val : Nat → Value} {t : Nat} : ∀ {l : List Oper} {i : Nat} {a : CAct}, (∀ o ∈ l, o.dst ≠ some t) → (putL val l i a).tmps.getD t undef = a.tmps.getD t undef
  | [], _, _, _ => rfl
  | o :: r, _, _, h => by
    simp only [putL]
    rw [putL_other (l := r) (fun q hq => h q (by simp [hq])), put_other (h o (by simp))]
theorem putL_same {val : Nat → Value} {t : Nat} : ∀ {l : List Oper} {i k : Nat} {a : CAct} {o : Oper}, (∀ (k k' : Nat) (o o' : Oper) (d : Tmp), l[k]? = some o → l[k']? = some o' → o.dst = some d → o'.dst = some d → k = k') → l[k]? = some o → o.dst = some t → t < a.tmps.size →
    (putL val l i a).tmps.getD t undef = val (i + k)
  | [], _, _, _, _, _, h, _, _ => by simp at h
  | q :: r, i, k, a, o, hd, hk, ho, ht => by
    simp only [putL]
    cases k with
    | zero =>
      simp at hk; subst hk
      rw [putL_other (l := r), ho, put_same ht]
      · simp
      · intro o' ho' he
        obtain ⟨j, hj, e⟩ := List.getElem_of_mem ho'
        have := hd 0 (j + 1) q o' t (by simp) (by simp [← e]) ho he
        omega
    | succ k =>
      rw [putL_same (l := r) (k := k) (o := o) (fun k k' o o' d h1 h2 h3 h4 => by have := hd (k + 1) (k' + 1) o o' d (by simpa using h1) (by simpa using h2) h3 h4; omega) (by simpa using hk) ho (by rw [put_size]; exact ht)]
      congr 1; omega

/-- What is asked of the operations themselves. -/
def plainOper (o : Oper) : Bool := o.guard.isNone && (match o.op with | .defer _ => false | .select .. => false | _ => true)

theorem mask_lt {ops : Array Oper} {p : Plan} (hp : PlanOK ops p) : ∀ (i : Nat) (o : Oper), ops[i]? = some o → ∀ j, (bsAt p.bs i).testBit j = true → j < i := by
  intro i
  induction i using Nat.strongRecOn with
  | ind i ih =>
    intro o ho j hj
    obtain ⟨e, h1, h2, h3⟩ := hp.mask i o ho j hj
    have h4 := hp.lower i o ho e h1 h2
    rcases h3 with rfl | h3
    · exact h4
    · have hlt : e.on < ops.size := by have := (Array.getElem?_eq_some_iff.1 ho).1; omega
      have := ih e.on h4 _ (Array.getElem?_eq_getElem hlt) j h3
      omega

section
variable {P : Program} {ops : Array Oper} {p : Plan}

structure LInv (ops : Array Oper) (p : Plan) (bars : List Nat) (W : Nat → World) (val : Nat → Value) (a : CAct) (s : Nat) (listed : Array Bool) (c : CAct) (w : World) : Prop where
  lsize : listed.size = ops.size
  closed : ∀ i j, Did listed i → (bsAt p.bs i).testBit j = true → Did listed j
  defers : c.defers = a.defers
  size : c.tmps.size = a.tmps.size
  tmpsW : ∀ j o d, Did listed j → ops[j]? = some o → o.dst = some d → c.tmps.getD d undef = val j
  tmps0 : ∀ t, (∀ j o, Did listed j → ops[j]? = some o → o.dst ≠ some t) → c.tmps.getD t undef = a.tmps.getD t undef
  world : w = W s
  le : s ≤ bars.length
  was : ∀ e ∈ bars.take s, Did listed e
  left : ∀ e ∈ bars.drop s, ¬ Did listed e

theorem act_ext {c c' : CAct} (h1 : c.tmps.size = c'.tmps.size) (h2 : ∀ t, t < c.tmps.size → c.tmps.getD t undef = c'.tmps.getD t undef) (h3 : c.defers = c'.defers) : c = c' := by
  obtain ⟨t, d⟩ := c
  obtain ⟨t', d'⟩ := c'
  simp only at h1 h2 h3
  subst h3
  congr 1
  refine Array.ext h1 fun i hi hi' => ?_
  have := h2 i hi
  simpa [hi, hi'] using this

theorem lex_any (hp : PlanOK ops p) {bars : List Nat} (hch : chained p.bs bars = true) (hbars : ∀ e ∈ bars, e < ops.size) (hpl : ∀ o ∈ ops.toList, plainOper o = true) {W : Nat → World} {val : Nat → Value} {a : CAct} {n : Nat} {ro : Option Nat} {Q : Exit → CAct → World → Prop}
    (hdst : ∀ o ∈ ops.toList, ∀ d, o.dst = some d → d < a.tmps.size)
    (hval : ∀ k o, ops.toList[k]? = some o → StepAt P p.bs bars W k o (putL val (ops.toList.take k) 0 a) (val k)) (hQ : Q .normal (putL val ops.toList 0 a) (W bars.length)) :
    ∀ (fuel s : Nat) (listed : Array Bool) (c : CAct) (w : World), LInv ops p bars W val a s listed c w → cntF (fun i => listed.getD i false) ops.size ≤ fuel → wpAnyIn (Fz ro) n P .any ops Q fuel listed c w := by
  have hdl : ∀ (k k' : Nat) (o o' : Oper) (d : Tmp), ops.toList[k]? = some o → ops.toList[k']? = some o' → o.dst = some d → o'.dst = some d → k = k' := fun k k' o o' d h1 h2 h3 h4 =>
    hp.dsts k k' o o' d (by simpa using h1) (by simpa using h2) h3 h4
  have hdt : ∀ (m k k' : Nat) (o o' : Oper) (d : Tmp), (ops.toList.take m)[k]? = some o → (ops.toList.take m)[k']? = some o' → o.dst = some d → o'.dst = some d → k = k' := fun m k k' o o' d h1 h2 h3 h4 => by
    rw [List.getElem?_take] at h1 h2
    split at h1
    · split at h2
      · exact hdl k k' o o' d h1 h2 h3 h4
      · cases h2
    · cases h1
  have fin : ∀ {s listed c w}, LInv ops p bars W val a s listed c w → Region.ready .any ops listed = [] → Q .normal c w := by
    intro s listed c w hI hr
    have hall := ready_nil hp hI.lsize hr
    have hs : s = bars.length := by
      have h1 := hI.le
      by_cases h2 : s = bars.length
      · exact h2
      · exfalso
        have hlt : s < bars.length := by omega
        have hm : bars[s] ∈ bars.drop s := by
          rw [List.drop_eq_getElem_cons hlt]; exact List.mem_cons_self
        exact hI.left _ hm (hall _ (hbars _ (List.getElem_mem hlt)))
    subst hs
    have hc : c = putL val ops.toList 0 a := by
      refine act_ext (by rw [hI.size, putL_size]) (fun t ht => ?_) (by rw [hI.defers, putL_defers])
      by_cases hw : ∃ (j : Nat) (o : Oper), ops[j]? = some o ∧ o.dst = some t
      · obtain ⟨j, o, ho, hod⟩ := hw
        rw [hI.tmpsW j o t (hall j (Array.getElem?_eq_some_iff.1 ho).1) ho hod, putL_same hdl (k := j) (o := o) (by simpa using ho) hod (by rw [← hI.size]; exact ht)]
        simp
      · rw [hI.tmps0 t (fun j o _ ho hod => hw ⟨j, o, ho, hod⟩), putL_other]
        intro o ho hod
        obtain ⟨j, hj, e⟩ := List.getElem_of_mem ho
        exact hw ⟨j, o, by simp at hj; rw [Array.getElem?_eq_getElem hj]; simpa using e, hod⟩
    rw [hc, hI.world]
    exact hQ
  intro fuel
  induction fuel with
  | zero =>
    intro s listed c w hI hcnt
    have hz : cntF (fun i => listed.getD i false) ops.size = 0 := by omega
    have hall := cntF_zero hz
    have hr : Region.ready .any ops listed = [] := by
      cases hq : Region.ready .any ops listed with
      | nil => rfl
      | cons i r =>
        have := ready_spec hI.lsize (i := i) (by rw [hq]; simp)
        exact absurd (hall i this.1) this.2.1
    exact ⟨hr, fin hI hr⟩
  | succ fuel ih =>
    intro s listed c w hI hcnt
    refine ⟨fin hI, ?_⟩
    intro i hi
    obtain ⟨hin, hnd, o, ho, hedges⟩ := ready_spec hI.lsize hi
    have hready := mask_did hp hI.closed ho hedges
    have hol : ops.toList[i]? = some o := by simpa using ho
    have hom : o ∈ ops.toList := List.mem_of_getElem? hol
    have hilt : i < listed.size := by rw [hI.lsize]; exact hin
    have hcnt' : cntF (fun j => (listed.setIfInBounds i true).getD j false) ops.size ≤ fuel := by
      have := cntF_set (f := fun j => listed.getD j false) (g := fun j => (listed.setIfInBounds i true).getD j false) (i := i) hnd (did_set_new hilt) (by
        intro j hj
        simp [Array.getD_eq_getD_getElem?, Ne.symm hj]) hin
      omega
    have hplo := hpl o hom
    simp only [plainOper, Bool.and_eq_true, Option.isNone_iff_eq_none] at hplo
    obtain ⟨hguard, hop⟩ := hplo
    have hnodef : ∀ q, o.op ≠ .defer q := by intro q e; rw [e] at hop; cases hop
    have hnosel : ∀ cs b, o.op ≠ .select cs b := by intro cs b e; rw [e] at hop; cases hop
    -- what it reads
    have henv : ∀ x ∈ o.op.operands, c.eval x = (putL val (ops.toList.take i) 0 a).eval x := by
      intro x hx
      cases x with
      | tmp t =>
        have hmem : t ∈ tmpsOf o := by
          unfold tmpsOf
          rw [List.mem_filterMap]
          exact ⟨.tmp t, by simpa using hx, rfl⟩
        show c.tmps.getD t undef = (putL val (ops.toList.take i) 0 a).tmps.getD t undef
        by_cases hw : ∃ (j : Nat) (q : Oper), ops[j]? = some q ∧ q.dst = some t
        · obtain ⟨j, q, hq, hqd⟩ := hw
          have hql : ops.toList[j]? = some q := by simpa using hq
          have hbefore : i ≤ j → (putL val (ops.toList.take i) 0 a).tmps.getD t undef = a.tmps.getD t undef := by
            intro hij
            refine putL_other fun o' ho' hod' => ?_
            obtain ⟨k, hk, e⟩ := List.getElem_of_mem ho'
            have h1 : (ops.toList.take i)[k]? = some o' := by rw [List.getElem?_eq_getElem hk, e]
            rw [List.getElem?_take] at h1
            split at h1
            · have := hdl k j o' q t h1 hql hod' hqd
              omega
            · cases h1
          have hnot : ¬ Did listed j → c.tmps.getD t undef = a.tmps.getD t undef := by
            intro hj
            refine hI.tmps0 t fun j' q' hj' hq' hqd' => ?_
            have := hp.dsts j' j q' q t hq' hq hqd' hqd
            exact hj (this ▸ hj')
          rcases hp.reads i j o q t ho hq hqd hmem with rfl | hb | hb
          · rw [hnot hnd, hbefore (Nat.le_refl _)]
          · have hlt := mask_lt hp i o ho j hb
            rw [hI.tmpsW j q t (hready j hb) hq hqd, putL_same (hdt i) (k := j) (o := q) (by rw [List.getElem?_take, if_pos hlt]; exact hql) hqd (hdst q (List.mem_of_getElem? hql) t hqd)]
            simp
          · have hlt := mask_lt hp j q hq i hb
            rw [hnot (fun hj => hnd (hI.closed j i hj hb)), hbefore (by omega)]
        · rw [hI.tmps0 t (fun j q _ hq hqd => hw ⟨j, q, hq, hqd⟩), putL_other]
          intro o' ho' hod'
          obtain ⟨j, hj, e⟩ := List.getElem_of_mem (List.mem_of_mem_take ho')
          exact hw ⟨j, o', by simp at hj; rw [Array.getElem?_eq_getElem hj]; simpa using e, hod'⟩
      | const u => rfl
      | global g => rfl
      | func f => rfl
    have hexec := execOp_congr o hnosel henv
    have hstep := hval i o hol
    -- it comes up
    have go : ∀ (s' : Nat), DoesAt P o (putL val (ops.toList.take i) 0 a) (val i) (W s) (W s') → s' ≤ bars.length → (∀ e ∈ bars.take s', Did (listed.setIfInBounds i true) e) → (∀ e ∈ bars.drop s', ¬ Did (listed.setIfInBounds i true) e) →
        wpOpIn (Fz ro) n P ops Q i (wpAnyIn (Fz ro) n P .any ops Q fuel (listed.setIfInBounds i true)) c w := by
      intro s' hdo hle' hwas' hleft'
      have hnext : LInv ops p bars W val a s' (listed.setIfInBounds i true) (c.put o.dst (val i)) (W s') := by
        refine ⟨by simp [hI.lsize], ?_, by rw [put_defers]; exact hI.defers, by rw [put_size]; exact hI.size, ?_, ?_, rfl, hle', hwas', hleft'⟩
        · intro x j hx hj
          rcases did_set hx with rfl | hx
          · exact did_set_old (hready j hj)
          · exact did_set_old (hI.closed x j hx hj)
        · intro j q d hj hq hd
          by_cases hji : j = i
          · subst hji
            rw [ho] at hq; cases hq
            rw [hd, put_same (by rw [hI.size]; exact hdst o hom d hd)]
          · rcases did_set hj with e | hj
            · exact absurd e hji
            · rw [put_other (fun e => hji (hp.dsts j i q o d hq ho hd e))]
              exact hI.tmpsW j q d hj hq hd
        · intro t ht
          rw [put_other (ht i o (did_set_new hilt) ho)]
          exact hI.tmps0 t (fun j q hj hq => ht j q (did_set_old hj) hq)
      have hrest := ih s' _ _ _ hnext hcnt'
      simp only [wpOpIn, ho]
      have hwant : Region.wanted o (yielded ops c.tmps) = true := by unfold Region.wanted; rw [hguard]
      rw [if_pos hwant]
      refine ⟨fun f _ => Fz_fn ro f, ?_⟩
      rw [Oper.semAt_eq _ _ _ hnodef, hexec, hI.world]
      rcases hdo with hdo | ⟨hdo, hu⟩
      · rw [hdo]; exact hrest
      · rw [hdo]; rw [hu] at hrest; exact hrest
    have hnone : ∀ e ∈ bars.take s, e ≠ i := fun e he q => hnd (q ▸ hI.was e he)
    unfold StepAt at hstep
    cases hidx : bars.idxOf? i with
    | some k =>
      rw [hidx] at hstep
      have hk : k < bars.length ∧ bars[k]? = some i ∧ ∀ j, j < k → bars[j]? ≠ some i := by
        rw [List.idxOf?_eq_some_iff] at hidx
        obtain ⟨h1, h2, h3⟩ := hidx
        refine ⟨h1, by rw [List.getElem?_eq_getElem h1]; simpa using h2, fun j hj e => ?_⟩
        have := h3 j hj
        rw [List.getElem?_eq_getElem (by omega)] at e
        simp at e
        simp [e] at this
      have hks : k = s := by
        rcases Nat.lt_trichotomy k s with q | q | q
        · exfalso
          have : i ∈ bars.take s := by
            rw [List.mem_take_iff_getElem]
            exact ⟨k, by omega, by have := hk.2.1; rw [List.getElem?_eq_getElem hk.1] at this; simpa using this⟩
          exact hnone i this rfl
        · exact q
        · exfalso
          have hs : s < bars.length := by omega
          have hm : (bsAt p.bs i).testBit bars[s] = true := by
            have e : bars = bars.take s ++ bars[s] :: bars.drop (s + 1) := by rw [← List.drop_eq_getElem_cons hs, List.take_append_drop]
            refine chain_head e hch i ?_
            rw [List.mem_drop_iff_getElem]
            refine ⟨k - (s + 1), by omega, ?_⟩
            have := hk.2.1
            rw [List.getElem?_eq_getElem hk.1] at this
            have e2 : s + 1 + (k - (s + 1)) = k := by omega
            simpa [e2] using this
          exact hI.left bars[s] (by rw [List.drop_eq_getElem_cons hs]; exact List.mem_cons_self) (hready _ hm)
      subst hks
      refine go (k + 1) hstep (by omega) ?_ ?_
      · intro e he
        rw [List.take_add_one, List.mem_append] at he
        rcases he with he | he
        · exact did_set_old (hI.was e he)
        · rw [hk.2.1] at he
          simp at he; subst he
          exact did_set_new hilt
      · intro e he hd
        have he2 : e ∈ bars.drop k := by
          rw [List.drop_eq_getElem_cons hk.1]; exact List.mem_cons_of_mem _ he
        rcases did_set hd with rfl | hd
        · have e1 : bars = bars.take k ++ bars[k] :: bars.drop (k + 1) := by rw [← List.drop_eq_getElem_cons hk.1, List.take_append_drop]
          have hki : bars[k] = e := by have := hk.2.1; rw [List.getElem?_eq_getElem hk.1] at this; simpa using this
          have := mask_lt hp e o ho _ (chain_head e1 hch e he)
          omega
        · exact hI.left e he2 hd
    | none =>
      rw [hidx] at hstep
      have hnb : i ∉ bars := by rw [List.idxOf?_eq_none_iff] at hidx; exact hidx
      refine go s (hstep s ?_) hI.le (fun e he => did_set_old (hI.was e he)) ?_
      · unfold stagesOf
        rw [List.mem_filter, List.mem_range, Bool.and_eq_true, List.all_eq_true, List.all_eq_true]
        refine ⟨by have := hI.le; omega, fun e he => ?_, fun e he => ?_⟩
        · rw [Bool.not_eq_true']
          cases q : (bsAt p.bs e).testBit i with
          | false => rfl
          | true => exact absurd (hI.closed e i (hI.was e he) q) hnd
        · rw [Bool.not_eq_true']
          cases q : (bsAt p.bs i).testBit e with
          | false => rfl
          | true => exact absurd (hready e q) (hI.left e he)
      · intro e he hd
        rcases did_set hd with rfl | hd
        · exact hnb (List.mem_of_mem_drop he)
        · exact hI.left e he hd

/-- **A region that draws its order, by one walk of the text's order.** -/
theorem wpIn_region_lex {id n : Nat} {l : List Oper} {p : Plan} {bars : List Nat} {W : Nat → World} {a : CAct} {w : World} {ro : Option Nat} {Q : Exit → CAct → World → Prop} (hm : P.follows .mixedOrders = true) (hplan : planOf l.toArray = some p)
    (hch : (chained p.bs bars && bars.all (fun e => Nat.blt e l.length) && l.all plainOper && l.all (fun o => match o.dst with | some d => Nat.blt d a.tmps.size | none => true)) = true) (hW : W 0 = w.drew)
    (h : LexAt P p.bs bars W (fun a' => Q .normal a' (W bars.length)) l 0 a) : (Code.region id l.toArray true).wpIn (Fz ro) n P Q a w := by
  have hp := plan_ok hplan
  simp only [Bool.and_eq_true, List.all_eq_true] at hch
  obtain ⟨⟨⟨h1, h2⟩, h3⟩, h4⟩ := hch
  obtain ⟨val, h5, h6⟩ := lex_val h
  refine wpIn_region_any hm (lex_any hp h1 (fun e he => by simpa using (blt_iff _ _).1 (h2 e he)) (by simpa using h3) (fun o ho d hd => ?_) (fun k o hk => by simpa using h5 k o (by simpa using hk)) h6 _ 0 _ _ _ ?_ ?_)
  · have := h4 o (by simpa using ho)
    rw [hd] at this
    exact (blt_iff _ _).1 this
  · have hno : ∀ i, ¬ Did (Array.replicate l.toArray.size false) i := by
      intro i hi
      unfold Did at hi
      rw [Array.getD_eq_getD_getElem?, Array.getElem?_replicate] at hi
      split at hi <;> simp at hi
    exact ⟨by simp, fun i j hi => absurd hi (hno i), rfl, rfl, fun j o d hj => absurd hj (hno j), fun _ _ => rfl, hW.symm, Nat.zero_le _, fun e he => by simp at he, fun e _ => hno e⟩
  · have : ∀ (f : Nat → Bool) n, cntF f n ≤ n := by
      intro f n
      induction n with
      | zero => exact Nat.le_refl _
      | succ n ih => simp only [cntF]; split <;> omega
    exact this _ _
end

/-- The order of the walk: each operation behind what it waits for; a bar as late as can be. -/
def ordOk (bs bars : List Nat) : List Nat → Bool
  | [] => true
  | i :: r => r.all (fun j => !(bsAt bs i).testBit j && !Nat.beq i j) && (!bars.contains i || r.all fun j => (bsAt bs j).testBit i) && ordOk bs bars r

theorem ord_head {bs bars : List Nat} {i : Nat} {r : List Nat} (h : ordOk bs bars (i :: r) = true) : (∀ j ∈ r, (bsAt bs i).testBit j = false ∧ i ≠ j ∧ (i ∈ bars → (bsAt bs j).testBit i = true)) ∧ ordOk bs bars r = true := by
  simp only [ordOk, Bool.and_eq_true, List.all_eq_true, Bool.or_eq_true, Bool.not_eq_true'] at h
  obtain ⟨⟨h1, h2⟩, h3⟩ := h
  refine ⟨fun j hj => ⟨(h1 j hj).1, fun e => ?_, fun hi => ?_⟩, h3⟩
  · have := (h1 j hj).2
    rw [e, Nat.beq_refl] at this
    cases this
  · rcases h2 with h2 | h2
    · have : bars.contains i = true := by simpa using hi
      rw [this] at h2; cases h2
    · exact h2 j hj
theorem ord_split {bs bars : List Nat} : ∀ {pre : List Nat} {i : Nat} {r : List Nat}, ordOk bs bars (pre ++ i :: r) = true →
    (∀ j ∈ r, (bsAt bs i).testBit j = false ∧ i ≠ j ∧ (i ∈ bars → (bsAt bs j).testBit i = true)) ∧ (∀ j ∈ pre, (bsAt bs j).testBit i = false ∧ j ≠ i ∧ (j ∈ bars → (bsAt bs i).testBit j = true))
  | [], i, r, h => ⟨(ord_head h).1, fun j hj => by cases hj⟩
  | k :: pre, i, r, h => by
    obtain ⟨h1, h2⟩ := ord_head h
    obtain ⟨h3, h4⟩ := ord_split (pre := pre) h2
    refine ⟨h3, fun j hj => ?_⟩
    rcases List.mem_cons.1 hj with rfl | hj
    · exact h1 i (by simp)
    · exact h4 j hj

/-- The operation waits for all the others. -/
def lastAll (bs : List Nat) (n i : Nat) : Bool := (List.range n).all fun j => Nat.beq i j || ((bsAt bs i).testBit j || (bsAt bs j).testBit i)
/-- The same, but for what stays the same in all worlds of a kind. -/
def lastK (bs ks : List Nat) (n i : Nat) : Bool := (List.range n).all fun j => Nat.beq i j || ((bsAt bs i).testBit j || (bsAt bs j).testBit i || ks.contains j)
theorem lastK_of {bs ks : List Nat} {n i : Nat} (h : lastAll bs n i = true) : lastK bs ks n i = true := by
  unfold lastAll at h
  unfold lastK
  rw [List.all_eq_true] at h ⊢
  intro j hj
  have := h j hj
  rw [Bool.or_eq_true] at this ⊢
  exact this.imp id (fun q => by rw [q]; rfl)
/-- The walk. K: what holds of all worlds of the region; ks: the operations that read the same in all of them. -/
def OWK (K : World → Prop) (ks : List Nat) (P : Program) (ro : Option Nat) (ops : Array Oper) (bs bars : List Nat) (Q : CAct → World → Prop) : List Nat → CAct → World → Prop
  | [], a, w => Q a w
  | i :: r, a, w => ∃ o, ops[i]? = some o ∧
      ((bars.contains i = true ∧
          ((∃ f args, (execOp a.eval o).run P w = .ok (.enter f args) w ∧ CallsIn (Fz ro) 0 P f args w fun e w' => ∃ v, e = .returned v ∧ ((lastK bs ks ops.size i = true ∧ K w') ∨ Below w.heap.size w w') ∧ OWK K ks P ro ops bs bars Q r (a.put o.dst v) w') ∨
           (∃ w' v, ((execOp a.eval o).run P w = .ok (.value v) w' ∨ ((execOp a.eval o).run P w = .ok .skip w' ∧ v = undef)) ∧ ((lastK bs ks ops.size i = true ∧ K w') ∨ Below w.heap.size w w') ∧ OWK K ks P ro ops bs bars Q r (a.put o.dst v) w'))) ∨
       (bars.contains i = false ∧ ∃ v, (∀ w', (Below w.heap.size w w' ∨ (ks.contains i = true ∧ K w')) → (execOp a.eval o).run P w' = .ok (.value v) w') ∧ OWK K ks P ro ops bs bars Q r (a.put o.dst v) w))
abbrev OW (P : Program) (ro : Option Nat) (ops : Array Oper) (bs bars : List Nat) (Q : CAct → World → Prop) : List Nat → CAct → World → Prop := OWK (fun _ => True) [] P ro ops bs bars Q

section
variable {P : Program} {ops : Array Oper} {p : Plan}

/-- A state in which an operation reads what it should. -/
def Agree (ops : Array Oper) (p : Plan) (val : Nat → Value) (a : CAct) (i : Nat) (o : Oper) (c : CAct) : Prop :=
  ∀ t ∈ tmpsOf o, (∀ j q, (bsAt p.bs i).testBit j = true → ops[j]? = some q → q.dst = some t → c.tmps.getD t undef = val j) ∧
    ((∀ j q, (bsAt p.bs i).testBit j = true → ops[j]? = some q → q.dst ≠ some t) → c.tmps.getD t undef = a.tmps.getD t undef)
theorem Agree.eval {val : Nat → Value} {a : CAct} {i : Nat} {o : Oper} {c c' : CAct} (h : Agree ops p val a i o c) (h' : Agree ops p val a i o c') : ∀ x ∈ o.op.operands, c.eval x = c'.eval x := by
  intro x hx
  cases x with
  | tmp t =>
    have hmem : t ∈ tmpsOf o := by
      unfold tmpsOf
      rw [List.mem_filterMap]
      exact ⟨.tmp t, by simpa using hx, rfl⟩
    show c.tmps.getD t undef = c'.tmps.getD t undef
    by_cases hw : ∃ (j : Nat) (q : Oper), (bsAt p.bs i).testBit j = true ∧ ops[j]? = some q ∧ q.dst = some t
    · obtain ⟨j, q, h1, h2, h3⟩ := hw
      rw [(h t hmem).1 j q h1 h2 h3, (h' t hmem).1 j q h1 h2 h3]
    · have hno : ∀ j q, (bsAt p.bs i).testBit j = true → ops[j]? = some q → q.dst ≠ some t := fun j q h1 h2 h3 => hw ⟨j, q, h1, h2, h3⟩
      rw [(h t hmem).2 hno, (h' t hmem).2 hno]
  | const u => rfl
  | global g => rfl
  | func f => rfl

structure Core (K : World → Prop) (ks : List Nat) (P : Program) (ro : Option Nat) (ops : Array Oper) (p : Plan) (bars : List Nat) (Q : CAct → World → Prop) (a : CAct) (ord done rest : List Nat) (val : Nat → Value) (g : CAct) (listed : Array Bool) (w : World) : Prop where
  ord : done ++ rest = ord
  size : g.tmps.size = a.tmps.size
  defers : g.defers = a.defers
  gW : ∀ j ∈ done, ∀ o d, ops[j]? = some o → o.dst = some d → g.tmps.getD d undef = val j
  g0 : ∀ t, (∀ j ∈ done, ∀ o, ops[j]? = some o → o.dst ≠ some t) → g.tmps.getD t undef = a.tmps.getD t undef
  quiet : ∀ i ∈ done, ¬ Did listed i → ∀ o, ops[i]? = some o → i ∉ bars ∧ ∀ c : CAct, Agree ops p val a i o c → ∀ w', (Below w.heap.size w w' ∨ (ks.contains i = true ∧ K w')) → (execOp c.eval o).run P w' = .ok (.value (val i)) w'
  cont : OWK K ks P ro ops p.bs bars Q rest g w

theorem core_agree {K : World → Prop} {ks : List Nat} {ro : Option Nat} {bars : List Nat} {Q : CAct → World → Prop} {a : CAct} {ord done r : List Nat} {i : Nat} {val : Nat → Value} {g : CAct} {listed : Array Bool} {w : World} (hp : PlanOK ops p) (hord : ordOk p.bs bars ord = true) (hall : ∀ i, i < ops.size → i ∈ ord)
    (hC : Core K ks P ro ops p bars Q a ord done (i :: r) val g listed w) {o : Oper} (ho : ops[i]? = some o) : Agree ops p val a i o g := by
  have hs := hC.ord ▸ hord
  obtain ⟨h1, h2⟩ := ord_split hs
  intro t ht
  refine ⟨fun j q hj hq hd => ?_, fun hno => ?_⟩
  · refine hC.gW j ?_ q t hq hd
    have hjo : j ∈ ord := hall j (Array.getElem?_eq_some_iff.1 hq).1
    rw [← hC.ord] at hjo
    rcases List.mem_append.1 hjo with h | h
    · exact h
    · rcases List.mem_cons.1 h with rfl | h
      · have := mask_lt hp j o ho j hj; omega
      · have := (h1 j h).1; rw [hj] at this; cases this
  · refine hC.g0 t fun j hj q hq hd => ?_
    rcases hp.reads i j o q t ho hq hd ht with rfl | hb | hb
    · exact (h2 i hj).2.1 rfl
    · exact hno j q hb hq hd
    · have := (h2 j hj).1; rw [hb] at this; cases this

def upd (val : Nat → Value) (i : Nat) (v : Value) : Nat → Value := fun k => if k = i then v else val k
theorem upd_same (val : Nat → Value) (i : Nat) (v : Value) : upd val i v i = v := if_pos rfl
theorem upd_ne (val : Nat → Value) (i : Nat) (v : Value) {k : Nat} (h : k ≠ i) : upd val i v k = val k := if_neg h

theorem core_put {K : World → Prop} {ks : List Nat} {ro : Option Nat} {bars : List Nat} {Q : CAct → World → Prop} {a : CAct} {ord done r : List Nat} {i : Nat} {val : Nat → Value} {g : CAct} {listed listed' : Array Bool} {w w' : World} (hp : PlanOK ops p) (hord : ordOk p.bs bars ord = true)
    (hdst : ∀ o ∈ ops.toList, ∀ d, o.dst = some d → d < a.tmps.size)
    (hC : Core K ks P ro ops p bars Q a ord done (i :: r) val g listed w) {o : Oper} (ho : ops[i]? = some o) (v : Value) (hcont : OWK K ks P ro ops p.bs bars Q r (g.put o.dst v) w')
    (hq : ∀ j ∈ done, ¬ Did listed' j → ∀ q, ops[j]? = some q → j ∉ bars ∧ ∀ c : CAct, Agree ops p val a j q c → ∀ w2, (Below w'.heap.size w' w2 ∨ (ks.contains j = true ∧ K w2)) → (execOp c.eval q).run P w2 = .ok (.value (val j)) w2)
    (hi : ¬ Did listed' i → i ∉ bars ∧ ∀ c : CAct, Agree ops p val a i o c → ∀ w2, (Below w'.heap.size w' w2 ∨ (ks.contains i = true ∧ K w2)) → (execOp c.eval o).run P w2 = .ok (.value v) w2) :
    Core K ks P ro ops p bars Q a ord (done ++ [i]) r (upd val i v) (g.put o.dst v) listed' w' := by
  have hs := hC.ord ▸ hord
  obtain ⟨h1, h2⟩ := ord_split hs
  have hom : o ∈ ops.toList := List.mem_of_getElem? (by simpa using ho)
  have hagree : ∀ j q c, (bsAt p.bs j).testBit i = false → Agree ops p (upd val i v) a j q c → Agree ops p val a j q c := by
    intro j q c hji hA t ht
    refine ⟨fun k q' hk hq' hd => ?_, (hA t ht).2⟩
    have := (hA t ht).1 k q' hk hq' hd
    rw [upd_ne _ _ _ (fun e => by rw [e] at hk; rw [hk] at hji; cases hji)] at this
    exact this
  refine ⟨by rw [← hC.ord]; simp, by rw [put_size]; exact hC.size, by rw [put_defers]; exact hC.defers, ?_, ?_, ?_, hcont⟩
  · intro j hj q d hq' hd
    by_cases hji : j = i
    · subst hji
      rw [ho] at hq'; cases hq'
      rw [upd_same, hd, put_same (by rw [hC.size]; exact hdst o hom d hd)]
    · rw [upd_ne _ _ _ hji, put_other (fun e => hji (hp.dsts j i q o d hq' ho hd e))]
      rcases List.mem_append.1 hj with h | h
      · exact hC.gW j h q d hq' hd
      · simp at h; exact absurd h hji
  · intro t ht
    rw [put_other (ht i (by simp) o ho)]
    exact hC.g0 t fun j hj q hq' => ht j (by simp [hj]) q hq'
  · intro j hj hnd q hq'
    rcases List.mem_append.1 hj with h | h
    · have hji := h2 j h
      rw [upd_ne _ _ _ hji.2.1]
      obtain ⟨h3, h4⟩ := hq j h hnd q hq'
      exact ⟨h3, fun c hA => h4 c (hagree j q c hji.1 hA)⟩
    · have hji : j = i := by simpa using h
      subst hji
      rw [ho] at hq'; cases hq'
      rw [upd_same]
      obtain ⟨h3, h4⟩ := hi hnd
      refine ⟨h3, fun c hA => h4 c (hagree j o c ?_ hA)⟩
      cases e : (bsAt p.bs j).testBit j with
      | false => rfl
      | true => have := mask_lt hp j o ho j e; omega

/-- All that only reads is walked as far as can be. -/
theorem core_advance {K : World → Prop} {ks : List Nat} {ro : Option Nat} {bars : List Nat} {Q : CAct → World → Prop} {a : CAct} {ord : List Nat} {listed : Array Bool} {w : World} (hp : PlanOK ops p) (hord : ordOk p.bs bars ord = true) (hall : ∀ i, i < ops.size → i ∈ ord)
    (hnosel : ∀ o ∈ ops.toList, ∀ cs b, o.op ≠ .select cs b) (hdst : ∀ o ∈ ops.toList, ∀ d, o.dst = some d → d < a.tmps.size) :
    ∀ (rest done : List Nat) (val : Nat → Value) (g : CAct), Core K ks P ro ops p bars Q a ord done rest val g listed w →
      ∃ done' rest' val' g', Core K ks P ro ops p bars Q a ord done' rest' val' g' listed w ∧ (∀ e r, rest' = e :: r → e ∈ bars) ∧ (∀ j, j ∈ done → j ∈ done' ∧ val' j = val j) ∧ (∀ j, j ∈ done' → j ∈ bars → j ∈ done)
  | [], done, val, g, hC => ⟨done, [], val, g, hC, fun e r h => (by cases h), fun j hj => ⟨hj, rfl⟩, fun j hj _ => hj⟩
  | i :: r, done, val, g, hC => by
    obtain ⟨o, ho, hh⟩ := hC.cont
    rcases hh with ⟨hb, hh⟩ | ⟨hb, v, hv, hcont⟩
    · exact ⟨done, i :: r, val, g, hC, fun e r' h => by injection h with h1 h2; subst h1; simpa using hb, fun j hj => ⟨hj, rfl⟩, fun j hj _ => hj⟩
    · have hs := hC.ord ▸ hord
      obtain ⟨h1, h2⟩ := ord_split hs
      have hnb : i ∉ bars := by intro h; rw [show bars.contains i = true by simpa using h] at hb; cases hb
      have hA := core_agree hp hord hall hC ho
      have hom : o ∈ ops.toList := List.mem_of_getElem? (by simpa using ho)
      have hC' := core_put hp hord hdst hC ho v hcont hC.quiet (listed' := listed) (fun _ => ⟨hnb, fun c hAc w2 hb2 => by
        rw [execOp_congr o (hnosel o hom) (hAc.eval hA)]; exact hv w2 hb2⟩)
      obtain ⟨done', rest', val', g', k1, k2, k3, k4⟩ := core_advance hp hord hall hnosel hdst r (done ++ [i]) _ _ hC'
      refine ⟨done', rest', val', g', k1, k2, fun j hj => ?_, fun j hj hjb => ?_⟩
      · obtain ⟨h3, h4⟩ := k3 j (by simp [hj])
        refine ⟨h3, ?_⟩
        rw [h4, upd_ne _ _ _ (h2 j hj).2.1]
      · have := k4 j hj hjb
        rcases List.mem_append.1 this with h | h
        · exact h
        · have : j = i := by simpa using h
          subst this; exact absurd hjb hnb

structure EInv (K : World → Prop) (ks : List Nat) (P : Program) (ro : Option Nat) (ops : Array Oper) (p : Plan) (bars : List Nat) (Q : CAct → World → Prop) (a : CAct) (ord done rest : List Nat) (val : Nat → Value) (g : CAct) (listed : Array Bool) (c : CAct) (w : World) : Prop where
  core : Core K ks P ro ops p bars Q a ord done rest val g listed w
  kw : K w
  head : ∀ e r, rest = e :: r → e ∈ bars
  lsize : listed.size = ops.size
  closed : ∀ i j, Did listed i → (bsAt p.bs i).testBit j = true → Did listed j
  sub : ∀ j, Did listed j → j ∈ done
  cdefers : c.defers = a.defers
  csize : c.tmps.size = a.tmps.size
  cW : ∀ j o d, Did listed j → ops[j]? = some o → o.dst = some d → c.tmps.getD d undef = val j
  c0 : ∀ t, (∀ j o, Did listed j → ops[j]? = some o → o.dst ≠ some t) → c.tmps.getD t undef = a.tmps.getD t undef

theorem ow_any {K : World → Prop} {ks : List Nat} (hKB : ∀ w w', K w → Below w.heap.size w w' → K w') (hp : PlanOK ops p) {bars ord : List Nat} (hord : ordOk p.bs bars ord = true) (hall : ∀ i, i < ops.size → i ∈ ord) (hlt : ∀ i ∈ ord, i < ops.size) (hpl : ∀ o ∈ ops.toList, plainOper o = true) {a : CAct} {ro : Option Nat} {Q : Exit → CAct → World → Prop}
    (hdst : ∀ o ∈ ops.toList, ∀ d, o.dst = some d → d < a.tmps.size) :
    ∀ (fuel : Nat) (done rest : List Nat) (val : Nat → Value) (g : CAct) (listed : Array Bool) (c : CAct) (w : World), EInv K ks P ro ops p bars (fun a' w' => Q .normal a' w') a ord done rest val g listed c w → cntF (fun i => listed.getD i false) ops.size ≤ fuel → wpAnyIn (Fz ro) 0 P .any ops Q fuel listed c w := by
  have hnosel : ∀ o ∈ ops.toList, ∀ cs b, o.op ≠ .select cs b := by
    intro o ho cs b e
    have := hpl o ho
    simp only [plainOper, Bool.and_eq_true] at this
    rw [e] at this
    cases this.2
  have fin : ∀ {done rest val g listed c w}, EInv K ks P ro ops p bars (fun a' w' => Q .normal a' w') a ord done rest val g listed c w → Region.ready .any ops listed = [] → Q .normal c w := by
    intro done rest val g listed c w hI hr
    have hdid := ready_nil hp hI.lsize hr
    have hrest : rest = [] := by
      cases hre : rest with
      | nil => rfl
      | cons e r =>
        exfalso
        have hC := hI.core
        rw [hre] at hC
        have heo : e ∈ ord := by rw [← hC.ord]; simp
        have hs := hC.ord ▸ hord
        have := (ord_split hs).2 e (hI.sub e (hdid e (hlt e heo)))
        exact this.2.1 rfl
    subst hrest
    have hQ := hI.core.cont
    have hcg : c = g := by
      refine act_ext (by rw [hI.csize, hI.core.size]) (fun t ht => ?_) (by rw [hI.cdefers, hI.core.defers])
      by_cases hw : ∃ (j : Nat) (o : Oper), ops[j]? = some o ∧ o.dst = some t
      · obtain ⟨j, o, ho, hod⟩ := hw
        have hj := hdid j (Array.getElem?_eq_some_iff.1 ho).1
        rw [hI.cW j o t hj ho hod, hI.core.gW j (hI.sub j hj) o t ho hod]
      · rw [hI.c0 t (fun j o _ ho hod => hw ⟨j, o, ho, hod⟩), hI.core.g0 t (fun j _ o ho hod => hw ⟨j, o, ho, hod⟩)]
    rw [hcg]
    exact hQ
  intro fuel
  induction fuel with
  | zero =>
    intro done rest val g listed c w hI hcnt
    have hz : cntF (fun i => listed.getD i false) ops.size = 0 := by omega
    have hal := cntF_zero hz
    have hr : Region.ready .any ops listed = [] := by
      cases hq : Region.ready .any ops listed with
      | nil => rfl
      | cons i r =>
        have := ready_spec hI.lsize (i := i) (by rw [hq]; simp)
        exact absurd (hal i this.1) this.2.1
    exact ⟨hr, fin hI hr⟩
  | succ fuel ih =>
    intro done rest val g listed c w hI hcnt
    refine ⟨fin hI, ?_⟩
    intro i hi
    obtain ⟨hin, hnd, o, ho, hedges⟩ := ready_spec hI.lsize hi
    have hready := mask_did hp hI.closed ho hedges
    have hol : ops.toList[i]? = some o := by simpa using ho
    have hom : o ∈ ops.toList := List.mem_of_getElem? hol
    have hilt : i < listed.size := by rw [hI.lsize]; exact hin
    have hcnt' : cntF (fun j => (listed.setIfInBounds i true).getD j false) ops.size ≤ fuel := by
      have := cntF_set (f := fun j => listed.getD j false) (g := fun j => (listed.setIfInBounds i true).getD j false) (i := i) hnd (did_set_new hilt) (by
        intro j hj
        simp [Array.getD_eq_getD_getElem?, Ne.symm hj]) hin
      omega
    have hplo := hpl o hom
    simp only [plainOper, Bool.and_eq_true, Option.isNone_iff_eq_none] at hplo
    obtain ⟨hguard, hop⟩ := hplo
    have hnodef : ∀ q, o.op ≠ .defer q := by intro q e; rw [e] at hop; cases hop
    have hwant : Region.wanted o (yielded ops c.tmps) = true := by unfold Region.wanted; rw [hguard]
    have hclosed' : ∀ x j, Did (listed.setIfInBounds i true) x → (bsAt p.bs x).testBit j = true → Did (listed.setIfInBounds i true) j := by
      intro x j hx hj
      rcases did_set hx with rfl | hx
      · exact did_set_old (hready j hj)
      · exact did_set_old (hI.closed x j hx hj)
    have hcA : Agree ops p val a i o c := by
      intro t ht
      refine ⟨fun j q hj hq hd => hI.cW j q t (hready j hj) hq hd, fun hno => ?_⟩
      refine hI.c0 t fun j q hj hq hd => ?_
      rcases hp.reads i j o q t ho hq hd ht with rfl | hb | hb
      · exact hnd hj
      · exact hno j q hb hq hd
      · exact hnd (hI.closed j i hj hb)
    -- what stands behind the operation
    have hput : ∀ (val' : Nat → Value) (v : Value), (∀ j, Did listed j → val' j = val j) → val' i = v →
        (c.put o.dst v).defers = a.defers ∧ (c.put o.dst v).tmps.size = a.tmps.size ∧
        (∀ j q d, Did (listed.setIfInBounds i true) j → ops[j]? = some q → q.dst = some d → (c.put o.dst v).tmps.getD d undef = val' j) ∧
        (∀ t, (∀ j q, Did (listed.setIfInBounds i true) j → ops[j]? = some q → q.dst ≠ some t) → (c.put o.dst v).tmps.getD t undef = a.tmps.getD t undef) := by
      intro val' v hold hnew
      refine ⟨by rw [put_defers]; exact hI.cdefers, by rw [put_size]; exact hI.csize, ?_, ?_⟩
      · intro j q d hj hq hd
        by_cases hji : j = i
        · subst hji
          rw [ho] at hq; cases hq
          rw [hd, put_same (by rw [hI.csize]; exact hdst o hom d hd), hnew]
        · rcases did_set hj with e | hj
          · exact absurd e hji
          · rw [put_other (fun e => hji (hp.dsts j i q o d hq ho hd e)), hold j hj]
            exact hI.cW j q d hj hq hd
      · intro t ht
        rw [put_other (ht i o (did_set_new hilt) ho)]
        exact hI.c0 t (fun j q hj hq => ht j q (did_set_old hj) hq)
    by_cases hid : i ∈ done
    · -- it only reads, and is known
      obtain ⟨hnb, hq⟩ := hI.core.quiet i hid hnd o ho
      have hrun := hq c hcA w (.inl (Below.refl _ _))
      obtain ⟨e1, e2, e3, e4⟩ := hput val (val i) (fun _ _ => rfl) rfl
      have hnext : EInv K ks P ro ops p bars (fun a' w' => Q .normal a' w') a ord done rest val g (listed.setIfInBounds i true) (c.put o.dst (val i)) w :=
        ⟨⟨hI.core.ord, hI.core.size, hI.core.defers, hI.core.gW, hI.core.g0, fun j hj hnj => hI.core.quiet j hj (fun h => hnj (did_set_old h)), hI.core.cont⟩, hI.kw, hI.head, by simp [hI.lsize], hclosed',
          fun j hj => (did_set hj).elim (fun e => e ▸ hid) (fun hj => hI.sub j hj), e1, e2, e3, e4⟩
      have hrest := ih _ _ _ _ _ _ _ hnext hcnt'
      simp only [wpOpIn, ho]
      rw [if_pos hwant]
      refine ⟨fun f _ => Fz_fn ro f, ?_⟩
      rw [Oper.semAt_eq _ _ _ hnodef, hrun]
      exact hrest
    · -- it is the next bar
      have hio : i ∈ ord := hall i hin
      rw [← hI.core.ord] at hio
      have hir : i ∈ rest := by
        rcases List.mem_append.1 hio with h | h
        · exact absurd h hid
        · exact h
      obtain ⟨e, r, hre⟩ : ∃ e r, rest = e :: r := by
        cases hrest : rest with
        | nil => rw [hrest] at hir; cases hir
        | cons e r => exact ⟨e, r, rfl⟩
      have heb := hI.head e r hre
      subst hre
      have hs := hI.core.ord ▸ hord
      obtain ⟨h1, h2⟩ := ord_split hs
      have hie : i = e := by
        rcases List.mem_cons.1 hir with h | h
        · exact h
        · exfalso
          have hm := (h1 i h).2.2 heb
          exact (h2 e (hI.sub e (hready e hm))).2.1 rfl
      subst hie
      obtain ⟨o', ho', hh⟩ := hI.core.cont
      rw [ho] at ho'
      have ho' := Option.some.inj ho'
      subst ho'
      have hgA := core_agree hp hord hall hI.core ho
      have hexec := execOp_congr o (hnosel o hom) (hcA.eval hgA)
      have hcontb : bars.contains i = true := by simpa using heb
      have after : ∀ (v : Value) (w' : World), ((lastK p.bs ks ops.size i = true ∧ K w') ∨ Below w.heap.size w w') → OWK K ks P ro ops p.bs bars (fun a' w' => Q .normal a' w') r (g.put o.dst v) w' → wpAnyIn (Fz ro) 0 P .any ops Q fuel (listed.setIfInBounds i true) (c.put o.dst v) w' := by
        intro v w' hB hcont
        have hC' : Core K ks P ro ops p bars (fun a' w' => Q .normal a' w') a ord (done ++ [i]) r (upd val i v) (g.put o.dst v) (listed.setIfInBounds i true) w' := by
          refine core_put hp hord hdst hI.core ho v hcont (fun j hj hnj q hq => ?_) (fun h => absurd (did_set_new hilt) h)
          obtain ⟨h3, h4⟩ := hI.core.quiet j hj (fun h => hnj (did_set_old h)) q hq
          rcases hB with ⟨hr, hKw⟩ | hB
          · -- all else is done, or reads the same
            have hjl : j < ops.size := (Array.getElem?_eq_some_iff.1 hq).1
            unfold lastK at hr
            rw [List.all_eq_true] at hr
            have := hr j (List.mem_range.2 hjl)
            rw [Bool.or_eq_true, Bool.or_eq_true, Bool.or_eq_true] at this
            rcases this with h | (h | h) | h
            · exact absurd (Nat.eq_of_beq_eq_true h) (fun e => hid (e ▸ hj))
            · exact absurd (did_set_old (hready j h)) hnj
            · rw [(h2 j hj).1] at h; cases h
            · exact ⟨h3, fun c' hA w2 hb2 => h4 c' hA w2 (.inr ⟨h, hb2.elim (fun q => hKB _ _ hKw q) (fun q => q.2)⟩)⟩
          · exact ⟨h3, fun c' hA w2 hb2 => h4 c' hA w2 (hb2.imp (fun q => hB.trans (q.mono hB.size)) id)⟩
        obtain ⟨done', rest', val', g', k1, k2, k3, k4⟩ := core_advance hp hord hall hnosel hdst r _ _ _ hC'
        obtain ⟨e1, e2, e3, e4⟩ := hput val' v (fun j hj => by
            rw [(k3 j (by simp [hI.sub j hj])).2, upd_ne _ _ _ (fun e : j = i => hnd (e ▸ hj))]) (by rw [(k3 i (by simp)).2, upd_same])
        refine ih done' rest' val' g' _ _ _ ⟨k1, hB.elim (fun q => q.2) (fun q => hKB _ _ hI.kw q), k2, by simp [hI.lsize], hclosed', fun j hj => ?_, e1, e2, e3, e4⟩ hcnt'
        rcases did_set hj with rfl | hj
        · exact (k3 j (by simp)).1
        · exact (k3 j (by simp [hI.sub j hj])).1
      simp only [wpOpIn, ho]
      rw [if_pos hwant]
      refine ⟨fun f _ => Fz_fn ro f, ?_⟩
      rw [Oper.semAt_eq _ _ _ hnodef, hexec]
      rcases hh with ⟨_, hh⟩ | ⟨hb, _⟩
      · rcases hh with ⟨f, args, hrun, hcalls⟩ | ⟨w', v, hrun, hB, hcont⟩
        · rw [hrun]
          refine ⟨fun h => absurd (Fz_depth ro h) (by omega), ?_⟩
          refine CallsIn.mono hcalls ?_
          rintro e w' ⟨v, rfl, hB, hcont⟩
          exact after v w' hB hcont
        · rcases hrun with hrun | ⟨hrun, rfl⟩
          · rw [hrun]; exact after v w' hB hcont
          · rw [hrun]; exact after undef w' hB hcont
      · rw [hcontb] at hb; cases hb

def ordCheck (l : List Oper) (bars ord : List Nat) (nt : Nat) : Bool :=
  match planOf l.toArray with
  | none => false
  | some p => ordOk p.bs bars ord && (List.range l.length).all (fun i => ord.contains i) && ord.all (fun i => Nat.blt i l.length) && l.all plainOper && l.all (fun o => match o.dst with | some d => Nat.blt d nt | none => true)

/-- **A region that draws its order and calls, by one walk.** -/
theorem wpIn_region_owk {K : World → Prop} (ks : List Nat) (hKB : ∀ w w', K w → Below w.heap.size w w' → K w') {id : Nat} {l : List Oper} (bars ord : List Nat) (bs : List Nat) {a : CAct} {w : World} {ro : Option Nat} {Q : Exit → CAct → World → Prop} (hm : P.follows .mixedOrders = true)
    (nt : Nat) (hnt : a.tmps.size = nt) (hc : ordCheck l bars ord nt = true) (hbs : masks l [] = bs) (hK : K w.drew) (h : OWK K ks P ro l.toArray bs bars (fun a' w' => Q .normal a' w') ord a w.drew) : (Code.region id l.toArray true).wpIn (Fz ro) 0 P Q a w := by
  subst hnt
  unfold ordCheck at hc
  split at hc
  · cases hc
  · rename_i p hplan
    have hp := plan_ok hplan
    have hpbs : p.bs = bs := by
      have h2 := hplan
      unfold planOf at h2
      simp only [Bool.cond_eq_ite] at h2
      split at h2
      · injection h2 with h2; rw [← h2]; exact hbs
      · cases h2
    subst hpbs
    simp only [Bool.and_eq_true, List.all_eq_true] at hc
    obtain ⟨⟨⟨⟨h1, h2⟩, h3⟩, h4⟩, h5⟩ := hc
    have hall : ∀ i, i < l.toArray.size → i ∈ ord := fun i hi => by simpa using h2 i (List.mem_range.2 (by simpa using hi))
    have hlt : ∀ i ∈ ord, i < l.toArray.size := fun i hi => by simpa using (blt_iff _ _).1 (h3 i hi)
    have hpl : ∀ o ∈ l.toArray.toList, plainOper o = true := by simpa using h4
    have hdst : ∀ o ∈ l.toArray.toList, ∀ d, o.dst = some d → d < a.tmps.size := fun o ho d hd => by
      have := h5 o (by simpa using ho)
      rw [hd] at this
      exact (blt_iff _ _).1 this
    have hno : ∀ i, ¬ Did (Array.replicate l.toArray.size false) i := by
      intro i hi
      unfold Did at hi
      rw [Array.getD_eq_getD_getElem?, Array.getElem?_replicate] at hi
      split at hi <;> simp at hi
    have hnosel : ∀ o ∈ l.toArray.toList, ∀ cs b, o.op ≠ .select cs b := by
      intro o ho cs b e
      have := hpl o ho
      simp only [plainOper, Bool.and_eq_true] at this
      rw [e] at this
      cases this.2
    have hC : Core K ks P ro l.toArray p bars (fun a' w' => Q .normal a' w') a ord [] ord (fun _ => undef) a (Array.replicate l.toArray.size false) w.drew :=
      ⟨rfl, rfl, rfl, fun j hj => (by cases hj), fun _ _ => rfl, fun j hj => (by cases hj), h⟩
    obtain ⟨done', rest', val', g', k1, k2, k3, k4⟩ := core_advance hp h1 hall hnosel hdst ord [] _ _ hC
    refine wpIn_region_any hm (ow_any hKB hp h1 hall hlt hpl hdst _ done' rest' val' g' _ _ _ ⟨k1, hK, k2, by simp, fun i j hi => absurd hi (hno i), fun j hj => absurd hj (hno j), rfl, rfl, fun j o d hj => absurd hj (hno j), fun _ _ => rfl⟩ ?_)
    have : ∀ (f : Nat → Bool) n, cntF f n ≤ n := by
      intro f n
      induction n with
      | zero => exact Nat.le_refl _
      | succ n ih => simp only [cntF]; split <;> omega
    exact this _ _
theorem wpIn_region_ow {id : Nat} {l : List Oper} (bars ord : List Nat) (bs : List Nat) {a : CAct} {w : World} {ro : Option Nat} {Q : Exit → CAct → World → Prop} (hm : P.follows .mixedOrders = true)
    (nt : Nat) (hnt : a.tmps.size = nt) (hc : ordCheck l bars ord nt = true) (hbs : masks l [] = bs) (h : OW P ro l.toArray bs bars (fun a' w' => Q .normal a' w') ord a w.drew) : (Code.region id l.toArray true).wpIn (Fz ro) 0 P Q a w :=
  wpIn_region_owk (K := fun _ => True) [] (fun _ _ _ _ => trivial) bars ord bs hm nt hnt hc hbs trivial h
end

section
variable {P : Program} {ops : Array Oper} {bs bars r : List Nat} {i : Nat} {a : CAct} {w : World} {Q : CAct → World → Prop} {o : Oper}

theorem OW.read (ho : ops[i]? = some o) (hb : bars.contains i = false) (v : Value) (hd : ∀ w', Below w.heap.size w w' → (execOp a.eval o).run P w' = .ok (.value v) w') (h : OW P none ops bs bars Q r (a.put o.dst v) w) : OW P none ops bs bars Q (i :: r) a w :=
  ⟨o, ho, .inr ⟨hb, v, fun w' q => q.elim (hd w') (fun q => by cases q.1), h⟩⟩
theorem OW.move {x : Operand} {d : Option Tmp} {ty : TypeId} {ps : String} {af : Array Edge} (ho : ops[i]? = some { op := .move x, dst := d, type := ty, pos := ps, after := af, guard := none }) (hb : bars.contains i = false) (v : Value) (hx : a.eval x = v) (h : OW P none ops bs bars Q r (a.put d v) w) : OW P none ops bs bars Q (i :: r) a w :=
  OW.read ho hb v (fun w' _ => by subst hx; rfl) h
theorem OW.assign {x : Operand} {d : Option Tmp} {ty : TypeId} {ps : String} {af : Array Edge} (ho : ops[i]? = some { op := .assign x, dst := d, type := ty, pos := ps, after := af, guard := none }) (hb : bars.contains i = false) (v : Value) (hx : a.eval x = v) (h : OW P none ops bs bars Q r (a.put d v) w) : OW P none ops bs bars Q (i :: r) a w :=
  OW.read ho hb v (fun w' _ => by subst hx; rfl) h

/-- A field's address. -/
def FieldAt (P : Program) (s : TypeId) (f off : Nat) : Prop := ∀ g w, (Instr.fieldAt s (.pointer (some ⟨g, 0, none⟩)) f).run P w = .ok (.pointer (some ⟨g, off, none⟩)) w
theorem fieldAt_of {P : Program} {s : TypeId} {f off : Nat} {fs : Array Field} {fd : Field} (h1 : P.underlying s = some (.struct fs)) (h2 : fs[f]? = some fd) (h3 : fd.offset = off) (h4 : ((P.info? fd.type).map fun i => decide (i.size = 0)) = some false) : FieldAt P s f off := by
  intro g w
  obtain ⟨inf, h5⟩ : ∃ inf, P.info? fd.type = some inf := by
    cases e : P.info? fd.type with
    | none => rw [e] at h4; cases h4
    | some inf => exact ⟨inf, rfl⟩
  rw [h5] at h4
  simp at h4
  subst h3
  simp [Instr.fieldAt, run_underlying h1, h2, Instr.sureAddr, fieldPlace, sizeOf, typeInfo, h5, h4, Addr.add_lit]
theorem OW.fieldAddr {s : TypeId} {x : Operand} {f off g : Nat} {d : Option Tmp} {ty : TypeId} {ps : String} {af : Array Edge} (ho : ops[i]? = some { op := .fieldAddr s x f, dst := d, type := ty, pos := ps, after := af, guard := none }) (hb : bars.contains i = false)
    (hF : FieldAt P s f off) (hx : a.eval x = .pointer (some ⟨g, 0, none⟩)) (h : OW P none ops bs bars Q r (a.put d (.pointer (some ⟨g, off, none⟩))) w) : OW P none ops bs bars Q (i :: r) a w :=
  OW.read ho hb _ (fun w' _ => by simp [execOp, hx, hF g w']) h

/-- A load of one cell. -/
def LoadOne (P : Program) (t : TypeId) : Prop := ∀ p v w, World.cell? w p = some v → (Instr.loadAt t (.pointer (some p))).run P w = .ok v w
theorem loadOne_of {P : Program} {t : TypeId} (h : (match P.underlying t with | some (.struct _) | some (.array _ _) => false | some _ => true | none => false) = true) : LoadOne P t := by
  intro p v w hc
  cases hu : P.underlying t with
  | none => rw [hu] at h; cases h
  | some d =>
    rw [hu] at h
    cases d <;> first | (cases h; done) | (simp [Instr.loadAt, Instr.sureAddr, loadVar, isAgg, run_underlying hu, hc])
theorem OW.load {t : TypeId} {x : Operand} {p : Addr} {v : Value} {d : Option Tmp} {ty : TypeId} {ps : String} {af : Array Edge} (ho : ops[i]? = some { op := .load t x, dst := d, type := ty, pos := ps, after := af, guard := none }) (hb : bars.contains i = false)
    (hL : LoadOne P t) (hc : w.cell? p = some v) (hx : a.eval x = .pointer (some p)) (h : OW P none ops bs bars Q r (a.put d v) w) : OW P none ops bs bars Q (i :: r) a w :=
  OW.read ho hb _ (fun w' hb' => by
    have hp : p.block < w.heap.size := World.block_lt_of_cell? _ _ hc
    simp [execOp, hx, hL p v w' ((hb'.cell hp).trans hc)]) h
/-- A load of a struct. -/
def LoadAll (P : Program) (t : TypeId) (n : Nat) : Prop := ∀ g (cs : List Value) w, cs.length = n → (∀ j v, cs[j]? = some v → World.cell? w ⟨g, j, none⟩ = some v) → (Instr.loadAt t (.pointer (some ⟨g, 0, none⟩))).run P w = .ok (.agg cs.toArray) w
theorem loadAll_of {P : Program} {t : TypeId} {n : Nat} (h : (match P.underlying t with | some (.struct _) => true | _ => false) = true) (hi : (P.info? t).map (·.size) = some n) : LoadAll P t n := by
  intro g cs w hn hc
  cases hu : P.underlying t with
  | none => rw [hu] at h; cases h
  | some d =>
    rw [hu] at h
    cases d with
    | struct fs =>
      have hl := run_loadVar_mid (P := P) w g 0 t cs (.struct fs) (fun j v hj => by rw [Nat.zero_add]; exact hc j v hj) hu rfl (by rw [hn]; exact hi)
      simp [Instr.loadAt, Instr.sureAddr, hl]
    | _ => cases h
theorem OW.loadAll {t : TypeId} {x : Operand} {g n : Nat} {cs : List Value} {d : Option Tmp} {ty : TypeId} {ps : String} {af : Array Edge} (ho : ops[i]? = some { op := .load t x, dst := d, type := ty, pos := ps, after := af, guard := none }) (hb : bars.contains i = false)
    (hL : LoadAll P t n) (hn : cs.length = n) (h0 : 0 < n) (hc : ∀ j v, cs[j]? = some v → w.cell? ⟨g, j, none⟩ = some v) (hx : a.eval x = .pointer (some ⟨g, 0, none⟩)) (h : OW P none ops bs bars Q r (a.put d (.agg cs.toArray)) w) : OW P none ops bs bars Q (i :: r) a w :=
  OW.read ho hb _ (fun w' hb' => by
    have hp : g < w.heap.size := by
      obtain ⟨v, hv⟩ : ∃ v, cs[0]? = some v := ⟨_, List.getElem?_eq_getElem (by omega)⟩
      exact World.block_lt_of_cell? _ _ (hc 0 v hv)
    simp [execOp, hx, hL g cs w' hn (fun j v hj => (hb'.cell (p := ⟨g, j, none⟩) hp).trans (hc j v hj))]) h
theorem equal_bool {t : TypeId} {p q : Bool} {w : World} (ht : P.underlying t = some .bool) : (Op.equal t (.bool p) (.bool q)).run P w = .ok (p == q) w := by
  show (Op.equalIn (9999 + 1) t _ _).run P w = _
  rw [Op.equalIn]
  simp [run_underlying ht]
/-- Two truth values compared. -/
theorem OW.neqBool {t x2 : TypeId} {x y : Operand} {p q : Bool} {d : Option Tmp} {ty : TypeId} {ps : String} {af : Array Edge} (ho : ops[i]? = some { op := .binOp .neq t x y x2, dst := d, type := ty, pos := ps, after := af, guard := none }) (hb : bars.contains i = false)
    (ht : P.underlying t = some .bool) (hx : a.eval x = .bool p) (hy : a.eval y = .bool q) (h : OW P none ops bs bars Q r (a.put d (.bool (p != q))) w) : OW P none ops bs bars Q (i :: r) a w :=
  OW.read ho hb _ (fun w' _ => by
    have : (execOp a.eval { op := .binOp .neq t x y x2, dst := d, type := ty, pos := ps, after := af, guard := none }).run P w' = .ok (.value (.bool (p != q))) w' := by
      unfold execOp
      simp only [hx, hy]
      simp [eqGuard, binOp, equal_bool ht]
      cases p <;> cases q <;> rfl
    exact this) h
/-- A call. -/
theorem OW.call {f : FuncId} {fn : Func} {xs : Array Operand} {ts : Array TypeId} {args : List Value} {d : Option Tmp} {ty : TypeId} {ps : String} {af : Array Edge} (ho : ops[i]? = some { op := .call { callee := .value (.func f), args := xs, argTypes := ts }, dst := d, type := ty, pos := ps, after := af, guard := none }) (hb : bars.contains i = true)
    (hfn : P.funcs[f]? = some fn) (hbody : fn.body.isSome = true) (hN : NamesOK P) (ha : xs.toList.map a.eval = args)
    (h : CallsIn Fence.wide 0 P f args.toArray w fun e w' => ∃ v, e = .returned v ∧ Below w.heap.size w w' ∧ OW P none ops bs bars Q r (a.put d v) w') : OW P none ops bs bars Q (i :: r) a w := by
  refine ⟨_, ho, .inl ⟨hb, .inl ⟨f, args.toArray, ?_, h.mono (fun e w' ⟨v, q, hB, k⟩ => ⟨v, q, .inr hB, k⟩)⟩⟩⟩
  have ha' : xs.map a.eval = args.toArray := by subst ha; apply Array.ext'; rw [Array.toList_map]
  rw [← ha']
  have hbn : fn.body ≠ none := by intro q; rw [q] at hbody; simp at hbody
  have hev : a.eval (.func f) = .func (.func f) #[] #[] := rfl
  unfold execOp
  simp only [resolve, hev, Deferred.ofValue, Sem.run_bind, Sem.run_pure, Result.andThen_ok, invoke, callFunc, run_program, hfn, hN f fn hfn hbody, Bool.false_eq_true, if_false]
  have : fn.body.isNone = false := by cases hq : fn.body <;> simp_all
  rw [this]
  simp
/-- A store that waits for all else. -/
theorem OW.store {t : TypeId} {x y : Operand} {w' : World} {d : Option Tmp} {ty : TypeId} {ps : String} {af : Array Edge} (ho : ops[i]? = some { op := .store t x y, dst := d, type := ty, pos := ps, after := af, guard := none }) (hb : bars.contains i = true) (hl : lastAll bs ops.size i = true)
    (hrun : (execOp a.eval { op := .store t x y, dst := d, type := ty, pos := ps, after := af, guard := none }).run P w = .ok .skip w') (h : OW P none ops bs bars Q r (a.put d undef) w') : OW P none ops bs bars Q (i :: r) a w :=
  ⟨_, ho, .inl ⟨hb, .inr ⟨w', undef, .inr ⟨hrun, rfl⟩, .inl ⟨lastK_of hl, trivial⟩, h⟩⟩⟩
theorem OW.done {a : CAct} {w : World} (h : Q a w) : OW P none ops bs bars Q [] a w := h
end
end Go.Eng
