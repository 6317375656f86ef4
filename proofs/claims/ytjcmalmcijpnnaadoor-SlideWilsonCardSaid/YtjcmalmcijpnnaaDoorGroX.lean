/-
  What the program's search answers, and what its 'Size' does.
  Conditions: none.
-/
import Derived.Test.YtjcmalmcijpnnaaDoorEngY
import Derived.Test.YtjcmalmcijpnnaaDoorWavX
import Derived.Test.YtjcmalmcijpnnaaDoorAplX
import Derived.Sort.QuietIn
import Derived.Shelf.Abstract
import Derived.Test.YtjcmalmcijpnnaaDoorBfsX

namespace Go.Eng
open Go.RowKit

/-- The stages at which an operation may come up: how many of the bars are done. -/
def stagesOf (bs bars : List Nat) (i : Nat) : List Nat :=
  (List.range (bars.length + 1)).filter fun s => (bars.take s).all (fun e => !(bsAt bs e).testBit i) && (bars.drop s).all (fun e => !(bsAt bs i).testBit e)

/-- The operation runs to v and to the world w'. -/
def DoesAt (P : Program) (o : Oper) (a : CAct) (v : Value) (w w' : World) : Prop :=
  (execOp a.eval o).run P w = .ok (.value v) w' ∨ ((execOp a.eval o).run P w = .ok .skip w' ∧ v = undef)

def StepAt (P : Program) (bs bars : List Nat) (W : Nat → World) (i : Nat) (o : Oper) (a : CAct) (v : Value) : Prop :=
  match bars.idxOf? i with
  | some s => DoesAt P o a v (W s) (W (s + 1))
  | none => ∀ s ∈ stagesOf bs bars i, DoesAt P o a v (W s) (W s)

/-- The walk of the text's order. -/
def LexAt (P : Program) (bs bars : List Nat) (W : Nat → World) (Q : CAct → Prop) : List Oper → Nat → CAct → Prop
  | [], _, a => Q a
  | o :: r, i, a => ∃ v, StepAt P bs bars W i o a v ∧ LexAt P bs bars W Q r (i + 1) (a.put o.dst v)

def putL (val : Nat → Value) : List Oper → Nat → CAct → CAct
  | [], _, a => a
  | o :: r, i, a => putL val r (i + 1) (a.put o.dst (val i))

theorem lex_val {P : Program} {bs bars : List Nat} {W : Nat → World} {Q : CAct → Prop} : ∀ {l : List Oper} {i : Nat} {a : CAct}, LexAt P bs bars W Q l i a →
    ∃ val : Nat → Value, (∀ k o, l[k]? = some o → StepAt P bs bars W (i + k) o (putL val (l.take k) i a) (val (i + k))) ∧ Q (putL val l i a)
  | [], i, a, h => ⟨fun _ => undef, fun k o hk => by simp at hk, h⟩
  | o :: r, i, a, ⟨v, h1, h2⟩ => by
    obtain ⟨val, h3, h4⟩ := lex_val h2
    have key : ∀ (l : List Oper) (j : Nat) (b : CAct), i < j → putL (fun k => if k = i then v else val k) l j b = putL val l j b := by
      intro l
      induction l with
      | nil => intro _ _ _; rfl
      | cons o l ih =>
        intro j b hj
        simp only [putL]
        rw [if_neg (by omega), ih (j + 1) _ (by omega)]
    refine ⟨fun k => if k = i then v else val k, ?_, ?_⟩
    · intro k q hk
      cases k with
      | zero =>
        simp at hk; subst hk
        simpa [putL] using h1
      | succ k =>
        have h5 := h3 k q (by simpa using hk)
        simp only [List.take_succ_cons, putL]
        rw [key _ _ _ (Nat.lt_succ_self i), show i + (k + 1) = i + 1 + k by omega, if_neg (show ¬ i + 1 + k = i by omega)]
        simpa using h5
    · simp only [putL]
      rw [key _ _ _ (Nat.lt_succ_self i)]
      simpa using h4

theorem putL_size {val : Nat → Value} : ∀ {l : List Oper} {i : Nat} {a : CAct}, (putL val l i a).tmps.size = a.tmps.size
  | [], _, _ => rfl
  | _ :: r, _, _ => by simp only [putL]; rw [putL_size (l := r), put_size]
theorem putL_defers {val : Nat → Value} : ∀ {l : List Oper} {i : Nat} {a : CAct}, (putL val l i a).defers = a.defers
  | [], _, _ => rfl
  | _ :: r, _, _ => by simp only [putL]; rw [putL_defers (l := r), put_defers]
theorem putL_other {val : Nat → Value} {t : Nat} : ∀ {l : List Oper} {i : Nat} {a : CAct}, (∀ o ∈ l, o.dst ≠ some t) → (putL val l i a).tmps.getD t undef = a.tmps.getD t undef
  | [], _, _, _ => rfl
  | o :: r, _, _, h => by
    simp only [putL]
    rw [putL_other (l := r) (fun q hq => h q (by simp [hq])), put_other (h o (by simp))]
theorem putL_same {val : Nat → Value} {t : Nat} : ∀ {l : List Oper} {i k : Nat} {a : CAct} {o : Oper}, (∀ (k k' : Nat) (o o' : Oper) (d : Tmp), l[k]? = some o → l[k']? = some o' → o.dst = some d → o'.dst = some d → k = k') → l[k]? = some o → o.dst = some t → t < a.tmps.size →
    (putL val l i a).tmps.getD t undef = val (i + k)
  | [], _, _, _, _, _, h, _, _ => by simp at h
  | q :: r, i, k, a, o, hd, hk, ho, ht => by
    simp only [putL]
    cases k with
    | zero =>
      simp at hk; subst hk
      rw [putL_other (l := r), ho, put_same ht]
      · simp
      · intro o' ho' he
        obtain ⟨j, hj, e⟩ := List.getElem_of_mem ho'
        have := hd 0 (j + 1) q o' t (by simp) (by simp [← e]) ho he
        omega
    | succ k =>
      rw [putL_same (l := r) (k := k) (o := o) (fun k k' o o' d h1 h2 h3 h4 => by have := hd (k + 1) (k' + 1) o o' d (by simpa using h1) (by simpa using h2) h3 h4; omega) (by simpa using hk) ho (by rw [put_size]; exact ht)]
      congr 1; omega

/-- What is asked of the operations themselves. -/
def plainOper (o : Oper) : Bool := o.guard.isNone && (match o.op with | .defer _ => false | .select .. => false | _ => true)

theorem mask_lt {ops : Array Oper} {p : Plan} (hp : PlanOK ops p) : ∀ (i : Nat) (o : Oper), ops[i]? = some o → ∀ j, (bsAt p.bs i).testBit j = true → j < i := by
  intro i
  induction i using Nat.strongRecOn with
  | ind i ih =>
    intro o ho j hj
    obtain ⟨e, h1, h2, h3⟩ := hp.mask i o ho j hj
    have h4 := hp.lower i o ho e h1 h2
    rcases h3 with rfl | h3
    · exact h4
    · have hlt : e.on < ops.size := by have := (Array.getElem?_eq_some_iff.1 ho).1; omega
      have := ih e.on h4 _ (Array.getElem?_eq_getElem hlt) j h3
      omega

section
variable {P : Program} {ops : Array Oper} {p : Plan}

structure LInv (ops : Array Oper) (p : Plan) (bars : List Nat) (W : Nat → World) (val : Nat → Value) (a : CAct) (s : Nat) (listed : Array Bool) (c : CAct) (w : World) : Prop where
  lsize : listed.size = ops.size
  closed : ∀ i j, Did listed i → (bsAt p.bs i).testBit j = true → Did listed j
  defers : c.defers = a.defers
  size : c.tmps.size = a.tmps.size
  tmpsW : ∀ j o d, Did listed j → ops[j]? = some o → o.dst = some d → c.tmps.getD d undef = val j
  tmps0 : ∀ t, (∀ j o, Did listed j → ops[j]? = some o → o.dst ≠ some t) → c.tmps.getD t undef = a.tmps.getD t undef
  world : w = W s
  le : s ≤ bars.length
  was : ∀ e ∈ bars.take s, Did listed e
  left : ∀ e ∈ bars.drop s, ¬ Did listed e

theorem act_ext {c c' : CAct} (h1 : c.tmps.size = c'.tmps.size) (h2 : ∀ t, t < c.tmps.size → c.tmps.getD t undef = c'.tmps.getD t undef) (h3 : c.defers = c'.defers) : c = c' := by
  obtain ⟨t, d⟩ := c
  obtain ⟨t', d'⟩ := c'
  simp only at h1 h2 h3
  subst h3
  congr 1
  refine Array.ext h1 fun i hi hi' => ?_
  have := h2 i hi
  simpa [hi, hi'] using this

theorem lex_any (hp : PlanOK ops p) {bars : List Nat} (hch : chained p.bs bars = true) (hbars : ∀ e ∈ bars, e < ops.size) (hpl : ∀ o ∈ ops.toList, plainOper o = true) {W : Nat → World} {val : Nat → Value} {a : CAct} {n : Nat} {ro : Option Nat} {Q : Exit → CAct → World → Prop}
    (hdst : ∀ o ∈ ops.toList, ∀ d, o.dst = some d → d < a.tmps.size)
    (hval : ∀ k o, ops.toList[k]? = some o → StepAt P p.bs bars W k o (putL val (ops.toList.take k) 0 a) (val k)) (hQ : Q .normal (putL val ops.toList 0 a) (W bars.length)) :
    ∀ (fuel s : Nat) (listed : Array Bool) (c : CAct) (w : World), LInv ops p bars W val a s listed c w → cntF (fun i => listed.getD i false) ops.size ≤ fuel → wpAnyIn (Fz ro) n P .any ops Q fuel listed c w := by
  have hdl : ∀ (k k' : Nat) (o o' : Oper) (d : Tmp), ops.toList[k]? = some o → ops.toList[k']? = some o' → o.dst = some d → o'.dst = some d → k = k' := fun k k' o o' d h1 h2 h3 h4 =>
    hp.dsts k k' o o' d (by simpa using h1) (by simpa using h2) h3 h4
  have hdt : ∀ (m k k' : Nat) (o o' : Oper) (d : Tmp), (ops.toList.take m)[k]? = some o → (ops.toList.take m)[k']? = some o' → o.dst = some d → o'.dst = some d → k = k' := fun m k k' o o' d h1 h2 h3 h4 => by
    rw [List.getElem?_take] at h1 h2
    split at h1
    · split at h2
      · exact hdl k k' o o' d h1 h2 h3 h4
      · cases h2
    · cases h1
  have fin : ∀ {s listed c w}, LInv ops p bars W val a s listed c w → Region.ready .any ops listed = [] → Q .normal c w := by
    intro s listed c w hI hr
    have hall := ready_nil hp hI.lsize hr
    have hs : s = bars.length := by
      have h1 := hI.le
      by_cases h2 : s = bars.length
      · exact h2
      · exfalso
        have hlt : s < bars.length := by omega
        have hm : bars[s] ∈ bars.drop s := by
          rw [List.drop_eq_getElem_cons hlt]; exact List.mem_cons_self
        exact hI.left _ hm (hall _ (hbars _ (List.getElem_mem hlt)))
    subst hs
    have hc : c = putL val ops.toList 0 a := by
      refine act_ext (by rw [hI.size, putL_size]) (fun t ht => ?_) (by rw [hI.defers, putL_defers])
      by_cases hw : ∃ (j : Nat) (o : Oper), ops[j]? = some o ∧ o.dst = some t
      · obtain ⟨j, o, ho, hod⟩ := hw
        rw [hI.tmpsW j o t (hall j (Array.getElem?_eq_some_iff.1 ho).1) ho hod, putL_same hdl (k := j) (o := o) (by simpa using ho) hod (by rw [← hI.size]; exact ht)]
        simp
      · rw [hI.tmps0 t (fun j o _ ho hod => hw ⟨j, o, ho, hod⟩), putL_other]
        intro o ho hod
        obtain ⟨j, hj, e⟩ := List.getElem_of_mem ho
        exact hw ⟨j, o, by simp at hj; rw [Array.getElem?_eq_getElem hj]; simpa using e, hod⟩
    rw [hc, hI.world]
    exact hQ
  intro fuel
  induction fuel with
  | zero =>
    intro s listed c w hI hcnt
    have hz : cntF (fun i => listed.getD i false) ops.size = 0 := by omega
    have hall := cntF_zero hz
    have hr : Region.ready .any ops listed = [] := by
      cases hq : Region.ready .any ops listed with
      | nil => rfl
      | cons i r =>
        have := ready_spec hI.lsize (i := i) (by rw [hq]; simp)
        exact absurd (hall i this.1) this.2.1
    exact ⟨hr, fin hI hr⟩
  | succ fuel ih =>
    intro s listed c w hI hcnt
    refine ⟨fin hI, ?_⟩
    intro i hi
    obtain ⟨hin, hnd, o, ho, hedges⟩ := ready_spec hI.lsize hi
    have hready := mask_did hp hI.closed ho hedges
    have hol : ops.toList[i]? = some o := by simpa using ho
    have hom : o ∈ ops.toList := List.mem_of_getElem? hol
    have hilt : i < listed.size := by rw [hI.lsize]; exact hin
    have hcnt' : cntF (fun j => (listed.setIfInBounds i true).getD j false) ops.size ≤ fuel := by
      have := cntF_set (f := fun j => listed.getD j false) (g := fun j => (listed.setIfInBounds i true).getD j false) (i := i) hnd (did_set_new hilt) (by
        intro j hj
        simp [Array.getD_eq_getD_getElem?, Ne.symm hj]) hin
      omega
    have hplo := hpl o hom
    simp only [plainOper, Bool.and_eq_true, Option.isNone_iff_eq_none] at hplo
    obtain ⟨hguard, hop⟩ := hplo
    have hnodef : ∀ q, o.op ≠ .defer q := by intro q e; rw [e] at hop; cases hop
    have hnosel : ∀ cs b, o.op ≠ .select cs b := by intro cs b e; rw [e] at hop; cases hop
    -- what it reads
    have henv : ∀ x ∈ o.op.operands, c.eval x = (putL val (ops.toList.take i) 0 a).eval x := by
      intro x hx
      cases x with
      | tmp t =>
        have hmem : t ∈ tmpsOf o := by
          unfold tmpsOf
          rw [List.mem_filterMap]
          exact ⟨.tmp t, by simpa using hx, rfl⟩
        show c.tmps.getD t undef = (putL val (ops.toList.take i) 0 a).tmps.getD t undef
        by_cases hw : ∃ (j : Nat) (q : Oper), ops[j]? = some q ∧ q.dst = some t
        · obtain ⟨j, q, hq, hqd⟩ := hw
          have hql : ops.toList[j]? = some q := by simpa using hq
          have hbefore : i ≤ j → (putL val (ops.toList.take i) 0 a).tmps.getD t undef = a.tmps.getD t undef := by
            intro hij
            refine putL_other fun o' ho' hod' => ?_
            obtain ⟨k, hk, e⟩ := List.getElem_of_mem ho'
            have h1 : (ops.toList.take i)[k]? = some o' := by rw [List.getElem?_eq_getElem hk, e]
            rw [List.getElem?_take] at h1
            split at h1
            · have := hdl k j o' q t h1 hql hod' hqd
              omega
            · cases h1
          have hnot : ¬ Did listed j → c.tmps.getD t undef = a.tmps.getD t undef := by
            intro hj
            refine hI.tmps0 t fun j' q' hj' hq' hqd' => ?_
            have := hp.dsts j' j q' q t hq' hq hqd' hqd
            exact hj (this ▸ hj')
          rcases hp.reads i j o q t ho hq hqd hmem with rfl | hb | hb
          · rw [hnot hnd, hbefore (Nat.le_refl _)]
          · have hlt := mask_lt hp i o ho j hb
            rw [hI.tmpsW j q t (hready j hb) hq hqd, putL_same (hdt i) (k := j) (o := q) (by rw [List.getElem?_take, if_pos hlt]; exact hql) hqd (hdst q (List.mem_of_getElem? hql) t hqd)]
            simp
          · have hlt := mask_lt hp j q hq i hb
            rw [hnot (fun hj => hnd (hI.closed j i hj hb)), hbefore (by omega)]
        · rw [hI.tmps0 t (fun j q _ hq hqd => hw ⟨j, q, hq, hqd⟩), putL_other]
          intro o' ho' hod'
          obtain ⟨j, hj, e⟩ := List.getElem_of_mem (List.mem_of_mem_take ho')
          exact hw ⟨j, o', by simp at hj; rw [Array.getElem?_eq_getElem hj]; simpa using e, hod'⟩
      | const u => rfl
      | global g => rfl
      | func f => rfl
    have hexec := execOp_congr o hnosel henv
    have hstep := hval i o hol
    -- it comes up
    have go : ∀ (s' : Nat), DoesAt P o (putL val (ops.toList.take i) 0 a) (val i) (W s) (W s') → s' ≤ bars.length → (∀ e ∈ bars.take s', Did (listed.setIfInBounds i true) e) → (∀ e ∈ bars.drop s', ¬ Did (listed.setIfInBounds i true) e) →
        wpOpIn (Fz ro) n P ops Q i (wpAnyIn (Fz ro) n P .any ops Q fuel (listed.setIfInBounds i true)) c w := by
      intro s' hdo hle' hwas' hleft'
      have hnext : LInv ops p bars W val a s' (listed.setIfInBounds i true) (c.put o.dst (val i)) (W s') := by
        refine ⟨by simp [hI.lsize], ?_, by rw [put_defers]; exact hI.defers, by rw [put_size]; exact hI.size, ?_, ?_, rfl, hle', hwas', hleft'⟩
        · intro x j hx hj
          rcases did_set hx with rfl | hx
          · exact did_set_old (hready j hj)
          · exact did_set_old (hI.closed x j hx hj)
        · intro j q d hj hq hd
          by_cases hji : j = i
          · subst hji
            rw [ho] at hq; cases hq
            rw [hd, put_same (by rw [hI.size]; exact hdst o hom d hd)]
          · rcases did_set hj with e | hj
            · exact absurd e hji
            · rw [put_other (fun e => hji (hp.dsts j i q o d hq ho hd e))]
              exact hI.tmpsW j q d hj hq hd
        · intro t ht
          rw [put_other (ht i o (did_set_new hilt) ho)]
          exact hI.tmps0 t (fun j q hj hq => ht j q (did_set_old hj) hq)
      have hrest := ih s' _ _ _ hnext hcnt'
      simp only [wpOpIn, ho]
      have hwant : Region.wanted o (yielded ops c.tmps) = true := by unfold Region.wanted; rw [hguard]
      rw [if_pos hwant]
      refine ⟨fun f _ => Fz_fn ro f, ?_⟩
      rw [Oper.semAt_eq _ _ _ hnodef, hexec, hI.world]
      rcases hdo with hdo | ⟨hdo, hu⟩
      · rw [hdo]; exact hrest
      · rw [hdo]; rw [hu] at hrest; exact hrest
    have hnone : ∀ e ∈ bars.take s, e ≠ i := fun e he q => hnd (q ▸ hI.was e he)
    unfold StepAt at hstep
    cases hidx : bars.idxOf? i with
    | some k =>
      rw [hidx] at hstep
      have hk : k < bars.length ∧ bars[k]? = some i ∧ ∀ j, j < k → bars[j]? ≠ some i := by
        rw [List.idxOf?_eq_some_iff] at hidx
        obtain ⟨h1, h2, h3⟩ := hidx
        refine ⟨h1, by rw [List.getElem?_eq_getElem h1]; simpa using h2, fun j hj e => ?_⟩
        have := h3 j hj
        rw [List.getElem?_eq_getElem (by omega)] at e
        simp at e
        simp [e] at this
      have hks : k = s := by
        rcases Nat.lt_trichotomy k s with q | q | q
        · exfalso
          have : i ∈ bars.take s := by
            rw [List.mem_take_iff_getElem]
            exact ⟨k, by omega, by have := hk.2.1; rw [List.getElem?_eq_getElem hk.1] at this; simpa using this⟩
          exact hnone i this rfl
        · exact q
        · exfalso
          have hs : s < bars.length := by omega
          have hm : (bsAt p.bs i).testBit bars[s] = true := by
            have e : bars = bars.take s ++ bars[s] :: bars.drop (s + 1) := by rw [← List.drop_eq_getElem_cons hs, List.take_append_drop]
            refine chain_head e hch i ?_
            rw [List.mem_drop_iff_getElem]
            refine ⟨k - (s + 1), by omega, ?_⟩
            have := hk.2.1
            rw [List.getElem?_eq_getElem hk.1] at this
            have e2 : s + 1 + (k - (s + 1)) = k := by omega
            simpa [e2] using this
          exact hI.left bars[s] (by rw [List.drop_eq_getElem_cons hs]; exact List.mem_cons_self) (hready _ hm)
      subst hks
      refine go (k + 1) hstep (by omega) ?_ ?_
      · intro e he
        rw [List.take_add_one, List.mem_append] at he
        rcases he with he | he
        · exact did_set_old (hI.was e he)
        · rw [hk.2.1] at he
          simp at he; subst he
          exact did_set_new hilt
      · intro e he hd
        have he2 : e ∈ bars.drop k := by
          rw [List.drop_eq_getElem_cons hk.1]; exact List.mem_cons_of_mem _ he
        rcases did_set hd with rfl | hd
        · have e1 : bars = bars.take k ++ bars[k] :: bars.drop (k + 1) := by rw [← List.drop_eq_getElem_cons hk.1, List.take_append_drop]
          have hki : bars[k] = e := by have := hk.2.1; rw [List.getElem?_eq_getElem hk.1] at this; simpa using this
          have := mask_lt hp e o ho _ (chain_head e1 hch e he)
          omega
        · exact hI.left e he2 hd
    | none =>
      rw [hidx] at hstep
      have hnb : i ∉ bars := by rw [List.idxOf?_eq_none_iff] at hidx; exact hidx
      refine go s (hstep s ?_) hI.le (fun e he => did_set_old (hI.was e he)) ?_
      · unfold stagesOf
        rw [List.mem_filter, List.mem_range, Bool.and_eq_true, List.all_eq_true, List.all_eq_true]
        refine ⟨by have := hI.le; omega, fun e he => ?_, fun e he => ?_⟩
        · rw [Bool.not_eq_true']
          cases q : (bsAt p.bs e).testBit i with
          | false => rfl
          | true => exact absurd (hI.closed e i (hI.was e he) q) hnd
        · rw [Bool.not_eq_true']
          cases q : (bsAt p.bs i).testBit e with
          | false => rfl
          | true => exact absurd (hready e q) (hI.left e he)
      · intro e he hd
        rcases did_set hd with rfl | hd
        · exact hnb (List.mem_of_mem_drop he)
        · exact hI.left e he hd

/-- **A region that draws its order, by one walk of the text's order.** -/
theorem wpIn_region_lex {id n : Nat} {l : List Oper} {p : Plan} {bars : List Nat} {W : Nat → World} {a : CAct} {w : World} {ro : Option Nat} {Q : Exit → CAct → World → Prop} (hm : P.follows .mixedOrders = true) (hplan : planOf l.toArray = some p)
    (hch : (chained p.bs bars && bars.all (fun e => Nat.blt e l.length) && l.all plainOper && l.all (fun o => match o.dst with | some d => Nat.blt d a.tmps.size | none => true)) = true) (hW : W 0 = w.drew)
    (h : LexAt P p.bs bars W (fun a' => Q .normal a' (W bars.length)) l 0 a) : (Code.region id l.toArray true).wpIn (Fz ro) n P Q a w := by
  have hp := plan_ok hplan
  simp only [Bool.and_eq_true, List.all_eq_true] at hch
  obtain ⟨⟨⟨h1, h2⟩, h3⟩, h4⟩ := hch
  obtain ⟨val, h5, h6⟩ := lex_val h
  refine wpIn_region_any hm (lex_any hp h1 (fun e he => by simpa using (blt_iff _ _).1 (h2 e he)) (by simpa using h3) (fun o ho d hd => ?_) (fun k o hk => by simpa using h5 k o (by simpa using hk)) h6 _ 0 _ _ _ ?_ ?_)
  · have := h4 o (by simpa using ho)
    rw [hd] at this
    exact (blt_iff _ _).1 this
  · have hno : ∀ i, ¬ Did (Array.replicate l.toArray.size false) i := by
      intro i hi
      unfold Did at hi
      rw [Array.getD_eq_getD_getElem?, Array.getElem?_replicate] at hi
      split at hi <;> simp at hi
    exact ⟨by simp, fun i j hi => absurd hi (hno i), rfl, rfl, fun j o d hj => absurd hj (hno j), fun _ _ => rfl, hW.symm, Nat.zero_le _, fun e he => by simp at he, fun e _ => hno e⟩
  · have : ∀ (f : Nat → Bool) n, cntF f n ≤ n := by
      intro f n
      induction n with
      | zero => exact Nat.le_refl _
      | succ n ih => simp only [cntF]; split <;> omega
    exact this _ _
end
end Go.Eng

namespace Go.Eng
open Go.RowKit

def StepS (P : Program) (bars : List Nat) (W : Nat → World) (st : List Nat) (i : Nat) (o : Oper) (a : CAct) (v : Value) : Prop :=
  match bars.idxOf? i with
  | some s => DoesAt P o a v (W s) (W (s + 1))
  | none => ∀ s ∈ st, DoesAt P o a v (W s) (W s)
def LexS (P : Program) (bars : List Nat) (W : Nat → World) (Q : CAct → Prop) : List (List Nat) → List Oper → Nat → CAct → Prop
  | _, [], _, a => Q a
  | [], _ :: _, _, _ => False
  | st :: sts, o :: r, i, a => ∃ v, StepS P bars W st i o a v ∧ LexS P bars W Q sts r (i + 1) (a.put o.dst v)

theorem lexS_lex {P : Program} {bs bars : List Nat} {W : Nat → World} {Q : CAct → Prop} : ∀ {l : List Oper} {i : Nat} {a : CAct} {sts : List (List Nat)}, sts = (List.range' i l.length).map (stagesOf bs bars) → LexS P bars W Q sts l i a → LexAt P bs bars W Q l i a
  | [], i, a, sts, _, h => by cases sts <;> exact h
  | o :: r, i, a, sts, e, h => by
    rw [List.length_cons, List.range'_succ, List.map_cons] at e
    subst e
    obtain ⟨v, h1, h2⟩ := h
    exact ⟨v, h1, lexS_lex rfl h2⟩

def lexCheck (l : List Oper) (bars : List Nat) (nt : Nat) (sts : List (List Nat)) : Bool :=
  match planOf l.toArray with
  | none => false
  | some p => (chained p.bs bars && bars.all (fun e => Nat.blt e l.length) && l.all plainOper && l.all (fun o => match o.dst with | some d => Nat.blt d nt | none => true)) && sts == (List.range' 0 l.length).map (stagesOf p.bs bars)

theorem wpIn_region_lexS {P : Program} {id n : Nat} {l : List Oper} (bars : List Nat) (sts : List (List Nat)) (W : Nat → World) {a : CAct} {w : World} {ro : Option Nat} {Q : Exit → CAct → World → Prop} (hm : P.follows .mixedOrders = true)
    (nt : Nat) (hnt : a.tmps.size = nt) (hc : lexCheck l bars nt sts = true) (hW : W 0 = w.drew) (h : LexS P bars W (fun a' => Q .normal a' (W bars.length)) sts l 0 a) : (Code.region id l.toArray true).wpIn (Fz ro) n P Q a w := by
  subst hnt
  unfold lexCheck at hc
  split at hc
  · cases hc
  · rename_i p hp
    rw [Bool.and_eq_true] at hc
    exact wpIn_region_lex hm hp hc.1 hW (lexS_lex (beq_iff_eq.1 hc.2) h)

theorem LexS.done {P : Program} {bars : List Nat} {W : Nat → World} {Q : CAct → Prop} {sts : List (List Nat)} {i : Nat} {a : CAct} (h : Q a) : LexS P bars W Q sts [] i a := by cases sts <;> exact h
/-- The next operation only reads. -/
theorem LexS.read {P : Program} {bars : List Nat} {W : Nat → World} {Q : CAct → Prop} {st : List Nat} {sts : List (List Nat)} {o : Oper} {r : List Oper} {i : Nat} {a : CAct} (v : Value) (hb : bars.idxOf? i = none) (hd : ∀ s ∈ st, (execOp a.eval o).run P (W s) = .ok (.value v) (W s)) (h : LexS P bars W Q sts r (i + 1) (a.put o.dst v)) : LexS P bars W Q (st :: sts) (o :: r) i a :=
  ⟨v, by unfold StepS; rw [hb]; exact fun s hs => .inl (hd s hs), h⟩
/-- The next operation changes the world. -/
theorem LexS.write {P : Program} {bars : List Nat} {W : Nat → World} {Q : CAct → Prop} {st : List Nat} {sts : List (List Nat)} {o : Oper} {r : List Oper} {i : Nat} {a : CAct} (v : Value) (s : Nat) (hb : bars.idxOf? i = some s) (hd : (execOp a.eval o).run P (W s) = .ok (.value v) (W (s + 1))) (h : LexS P bars W Q sts r (i + 1) (a.put o.dst v)) : LexS P bars W Q (st :: sts) (o :: r) i a :=
  ⟨v, by unfold StepS; rw [hb]; exact .inl hd, h⟩
/-- .. and leaves nothing. -/
theorem LexS.store {P : Program} {bars : List Nat} {W : Nat → World} {Q : CAct → Prop} {st : List Nat} {sts : List (List Nat)} {o : Oper} {r : List Oper} {i : Nat} {a : CAct} (s : Nat) (hb : bars.idxOf? i = some s) (hd : (execOp a.eval o).run P (W s) = .ok .skip (W (s + 1))) (h : LexS P bars W Q sts r (i + 1) (a.put o.dst undef)) : LexS P bars W Q (st :: sts) (o :: r) i a :=
  ⟨undef, by unfold StepS; rw [hb]; exact .inr ⟨hd, rfl⟩, h⟩
end Go.Eng

namespace Go.Eng
open Go.RowKit Go.Proofs Go.Proofs.YtjcmalmcijpnnaaDoor
attribute [local go_sem] Oper.semAt_some

theorem flatP_at : ∀ {L : List (Nat → Int)} {k : Nat} {p : Nat → Int} {j : Nat}, L[k]? = some p → j < 9 → (flatP L)[k * 9 + j]? = some (.int .i8 (p j))
  | z :: L, 0, p, j, h, hj => by
    simp at h
    subst h
    unfold flatP
    rw [List.flatMap_cons, List.getElem?_append_left (by simp [pos9]; omega), Nat.zero_mul, Nat.zero_add]
    have := pos9_at z hj
    simpa using this
  | z :: L, k + 1, p, j, h, hj => by
    have ih := flatP_at (L := L) (k := k) (p := p) (j := j) (by simpa using h) hj
    unfold flatP at ih ⊢
    rw [List.flatMap_cons, List.getElem?_append_right (by simp [pos9]; omega)]
    have e : (k + 1) * 9 + j - (pos9 z).toList.length = k * 9 + j := by simp [pos9]; omega
    rw [e]; exact ih

theorem TabsIn.ne_map {w : World} {m : Nat} {es : List Known} (h : TabsIn w) (hm : MapAt w m es) : m ≠ 0 ∧ m ≠ 1 := by
  obtain ⟨t0, t1, f0, f1, h0, h1⟩ := h
  obtain ⟨en, cl, h2, _⟩ := hm
  constructor
  · intro e
    subst e
    rw [h2] at h0
    cases h0
  · intro e
    subst e
    rw [h2] at h1
    cases h1
theorem Mov.ne {qs : List (Nat × Nat)} {N : Nat} {p q : Nat → Int} (h : Mov qs N p q) (e : ∀ i, i < 9 → q i = p i) (hN : N ≤ 9) (hq : ∀ q ∈ qs, q.1 < q.2 ∧ q.2 < N) : False := by
  obtain ⟨h0, a, t, h1, h2, h3, rfl⟩ := h
  have hat := (near_lt hq h3).2.2
  have hal := h1.lt
  have := e a (by omega)
  rw [swapAt_at] at this
  have := h0.inj t a h2 hal this
  omega
/-- A row that ends with another position is no box of this one. -/
theorem row_box {W : World} {base b : Nat} {v : Value} {ns : List Known} {k : Known} {p : Nat → Int} (h : W.ownsRow base 83 9 v (ns ++ [k]).length (flatP ((ns ++ [k]).map (·.at_)))) (hb : PosBox W b p) (hv : v.ownBlock = some b) : ∀ i, i < 9 → k.at_ i = p i := by
  rcases h.2 with ⟨rfl, _⟩ | ⟨g, cap, cur, rfl, _, hg, hn, _, hsz, htake⟩
  · cases hv
  · simp [Value.ownBlock] at hv
    subst hv
    rw [show W.heap[g]? = _ from hb] at hg
    injection hg with hg
    injection hg with hg
    subst hg
    have h9 : (pos9 p).size = 9 := rfl
    rw [h9] at hsz
    rw [List.length_append, List.length_singleton] at hn htake
    have hns : ns = [] := List.length_eq_zero_iff.1 (by omega)
    subst hns
    intro i hi
    have h1 := congrArg (fun l : List Value => l[i]?) htake
    simp only [List.length_nil, Nat.zero_add, Nat.one_mul, List.nil_append, List.map_cons, List.map_nil] at h1
    rw [List.getElem?_take, if_pos hi, Array.getElem?_toList, pos9_at p hi] at h1
    have h2 : (flatP [k.at_])[i]? = some (.int .i8 (k.at_ i)) := by
      have := flatP_at (L := [k.at_]) (k := 0) (p := k.at_) (j := i) rfl hi
      rw [Nat.zero_mul, Nat.zero_add] at this
      exact this
    rw [h2] at h1
    injection h1 with h1
    injection h1 with _ h1
    exact h1.symm

structure KeptBut (g m : Nat) (w w' : World) : Prop where
  os : w'.os = w.os
  tape : w'.tape = w.tape
  output : w'.output = w.output
  size : w.heap.size ≤ w'.heap.size
  block : ∀ k, k < w.heap.size → k ≠ g → k ≠ m → w'.heap[k]? = w.heap[k]?
theorem KeptBut.below {g m base : Nat} {w w' : World} (h : KeptBut g m w w') (hb : base ≤ w.heap.size) (hg : base ≤ g) (hm : base ≤ m) : Below base w w' := ⟨h.os, h.tape, h.output, h.size, fun k hk => h.block k (by omega) (by omega) (by omega)⟩
/-- What 'grow' leaves behind. -/
def GrewTo (base gb g m N : Nat) (qs : List (Nat × Nat)) (s : Nat → Int) (D : Nat) (es : List Known) (w : World) (e : Ending) (w' : World) : Prop :=
  ∃ (ns : List Known) (ve' : Value), e = .returned (.bool (decide (0 < ns.length))) ∧ WaveAt base gb g m ve' (es ++ ns) (ns.map (·.at_)) w' ∧ WaveOK qs N s (D + 1) (es ++ ns) (ns.map (·.at_)) ∧ KeptBut g m w w' ∧ ∀ b, ve'.ownBlock = some b → w.heap.size ≤ b
theorem st_set {w : World} {g : Nat} {a b c v : Value} {t : TypeId} {fz : Nat × Nat} (h : w.heap[g]? = some (.cells #[a, b, c] t fz)) : (w.setCell ⟨g, 2, none⟩ v).heap[g]? = some (.cells #[a, b, v] t fz) := by
  obtain ⟨hlt, hk⟩ := Array.getElem?_eq_some_iff.1 h
  show (w.heap.modify g _)[g]? = _
  rw [Array.getElem?_eq_getElem (by rw [Array.size_modify]; exact hlt), Array.getElem_modify_self, hk]
  rfl
theorem row_unmark {W W' : World} {B base size n : Nat} {e : TypeId} {v : Value} {xs : List Value} (h : W.ownsRow base e size v n xs) (hu : Unmark B W W') : W'.ownsRow base e size v n xs := by
  refine ⟨h.1, ?_⟩
  rcases h.2 with h | ⟨g, cap, cur, h1, h2, h3, h4⟩
  · exact .inl h
  · exact .inr ⟨g, cap, cur, h1, h2, hu.cells _ _ h3 rfl, h4⟩

theorem keep_block {w W : World} {m b : Nat} {es : List Known} {cs : Array Value} {t : TypeId} {fz : Nat × Nat} (hk : w.grownBy W (some m)) (hm : MapAt w m es) (hb : w.heap[b]? = some (.cells cs t fz)) : W.heap[b]? = w.heap[b]? :=
  hk.block b (Array.getElem?_eq_some_iff.1 hb).1 (fun e => by
    cases e
    obtain ⟨en, cl, h1, _⟩ := hm
    rw [hb] at h1
    cases h1)
theorem keep_cell {w W : World} {m : Nat} {es : List Known} {a : Addr} {v : Value} (hk : w.grownBy W (some m)) (hm : MapAt w m es) (ha : w.cell? a = some v) : W.cell? a = some v := by
  refine (World.cell?_of_block (a := a) (hk.block a.block (World.block_lt_of_cell? _ _ ha) (fun e => ?_))).trans ha
  obtain ⟨en, cl, h1, _⟩ := hm
  injection e with e
  unfold World.cell? at ha
  rw [e, h1] at ha
  cases ha
theorem tabs_keep {w W : World} {m : Nat} {es : List Known} (h : TabsIn w) (hk : w.grownBy W (some m)) (hm : MapAt w m es) : TabsIn W := by
  obtain ⟨t0, t1, f0, f1, h0, h1⟩ := h
  exact ⟨t0, t1, f0, f1, (keep_block hk hm h0).trans h0, (keep_block hk hm h1).trans h1⟩
theorem board_keep {w W : World} {m gb N : Nat} {nx : Nat → Nat} {es : List Known} (h : BoardAt w gb N nx) (hk : w.grownBy W (some m)) (hm : MapAt w m es) : BoardAt W gb N nx :=
  ⟨keep_cell hk hm h.n, fun i hi => keep_cell hk hm (h.next i hi)⟩
theorem MarksAt.kept {W W' : World} {B : Nat} {Ds : List Nat} (h : MarksAt W B Ds) (e : ∀ D ∈ Ds, W'.heap[D]? = W.heap[D]?) : MarksAt W' B Ds := ⟨h.1, fun D hD => ⟨(h.2 D hD).1, (e D hD).trans (h.2 D hD).2⟩⟩
theorem MarksAt.lt {W : World} {B : Nat} {Ds : List Nat} (h : MarksAt W B Ds) : ∀ D ∈ Ds, D < W.heap.size := fun D hD => (Array.getElem?_eq_some_iff.1 (h.2 D hD).2).1

def Z107 : Array Value := #[.int .i8 0, .int .i8 0, .int .i8 0, .int .i8 0, .int .i8 0, .int .i8 0, .int .i8 0, .int .i8 0, .int .i8 0, .int .i64 0]
def stepA (b : Nat → Int) (d : Int) : Array Value := #[.int .i8 (b 0), .int .i8 (b 1), .int .i8 (b 2), .int .i8 (b 3), .int .i8 (b 4), .int .i8 (b 5), .int .i8 (b 6), .int .i8 (b 7), .int .i8 (b 8), .int .i64 d]
theorem cell_al {W : World} {a : Addr} {v : Value} (o : Obj) (h : W.cell? a = some v) : (W.alloc o).cell? a = some v := (World.cell?_of_block (a := a) (Below.heap_alloc _ _ _ (World.block_lt_of_cell? _ _ h))).trans h
theorem look_any {W : World} {m : Nat} {es : List Known} (q : Nat → Int) (h : MapAt W m es) (o : Obj) : ∃ (b : Nat → Int) (d : Int) (ok : Bool),
    ((Instr.lookup 88 (.map (some m)) (.agg (pos9 q)) true).run Tryd.prog W.drew = .ok (.tuple #[stepV b d, .bool ok]) W.drew ∧ (Instr.lookup 88 (.map (some m)) (.agg (pos9 q)) true).run Tryd.prog (W.alloc o).drew = .ok (.tuple #[stepV b d, .bool ok]) (W.alloc o).drew) ∧
    ((ok = true ∧ ∃ k, lookK es q = some k) ∨ (ok = false ∧ lookK es q = none)) := by
  have h2 : MapAt (W.alloc o).drew m es := h.kept (Below.heap_alloc _ _ _ h.lt)
  have h1 : MapAt W.drew m es := h
  cases hl : lookK es q with
  | none => exact ⟨_, _, false, ⟨look_not h1 hl true, look_not h2 hl true⟩, .inr ⟨rfl, rfl⟩⟩
  | some k => exact ⟨_, _, true, ⟨look_there h1 hl true, look_there h2 hl true⟩, .inl ⟨rfl, k, rfl⟩⟩
theorem field107_run (b : Nat → Int) (d : Int) (W : World) : (Instr.field 107 (stepV b d) 1).run Tryd.prog W = .ok (.int .i64 d) W := by
  kernel_rfl
theorem t83_info : Tryd.prog.info? 83 = some Tryd.t83 := by kernel_rfl
theorem u89_sl : Tryd.prog.underlying 89 = some (.slice 83) := by kernel_rfl
theorem t83_zero : Tryd.t83.zero = some (.agg (pos9 fun _ => 0)) := by kernel_rfl
theorem t83_size : Tryd.t83.size = 9 := by kernel_rfl
theorem t83_bytes : Tryd.t83.bytes = 9 := by kernel_rfl
theorem pos_new (W : World) (z : Nat → Int) : ∀ j u, (pos9 z).toList[j]? = some u → (W.alloc (.cells (pos9 z) 83)).cell? ((⟨W.heap.size, 0, none⟩ : Addr).add j) = some u := fun j u h => by
  rw [Addr.add_lit, Nat.zero_add, World.cell?_alloc_new]
  simpa using h
theorem pos_one (z : Nat → Int) : ∀ u ∈ (pos9 z).toList, u.oneCell' = true := fun u h => by
  simp [pos9] at h
  rcases h with rfl | rfl | rfl | rfl | rfl | rfl | rfl | rfl | rfl <;> rfl
/-- Between two rounds of the inner loop. -/
def InnerAt (w : World) (g m : Nat) (es : List Known) (qs : List (Nat × Nat)) (N : Nat) (s : Nat → Int) (D : Nat) (L : List (Nat → Int)) (k : Nat) (p : Nat → Int) (h bp b2 B : Nat) (Ds : List Nat) {M : Nat} (pre : List (Nb N M)) (W : World) : Prop :=
  ∃ vn ns, GrowAt w g m es vn ns W ∧ GrowOK qs N s D es L ns (fun p' q' => (∃ j, j < k ∧ L[j]? = some p') ∨ (p' = p ∧ ∃ x ∈ pre, q' = swapAt p h x.1)) ∧ PosBox W bp p ∧ PosBox W b2 p ∧ MarksAt W (w.heap.size + 2) Ds ∧ (∀ d ∈ Ds, d < B) ∧ ∀ b, vn.ownBlock = some b → b ≠ bp ∧ b ≠ b2
theorem InnerAt.own {w : World} {g m : Nat} {es : List Known} {qs : List (Nat × Nat)} {N : Nat} {s : Nat → Int} {D : Nat} {L : List (Nat → Int)} {k : Nat} {p : Nat → Int} {h bp b2 B : Nat} {Ds : List Nat} {M : Nat} (hm : m < w.heap.size) (hB : w.heap.size + 2 ≤ B) (hbp : bp < B) (hb2 : b2 < B) :
    OwnFrom B (InnerAt w g m es qs N s D L k p h bp b2 B Ds (M := M)) := by
  rintro pre W W' row ⟨vn, ns, h1, h2, h3, h4, h5, h6, h7⟩ hg hr
  exact ⟨vn, ns, h1.abide hm hg (fun r e => ⟨by have := (hr r e).1; omega, (hr r e).2⟩), h2, h3.kept (hg.block _ h3.lt (fun e => by have := (hr _ e.symm).1; omega)), h4.kept (hg.block _ h4.lt (fun e => by have := (hr _ e.symm).1; omega)),
    h5.kept (fun d hd => hg.block _ (h5.lt d hd) (fun e => by have := (hr _ e.symm).1; have := h6 d hd; omega)), h6, h7⟩

/-- It comes to its end just so. -/
def AtEnd (a' : CAct) (w' : World) : Exit → CAct → World → Prop
  | .normal, a, w => a = a' ∧ w = w'
  | _, _, _ => False
theorem region_to {F : Fence} {n : Nat} {P : Program} {c : Code} {Q : Exit → CAct → World → Prop} {a a' : CAct} {w w' : World} (h : Q .normal a' w') (hr : c.wpIn F n P (AtEnd a' w') a w) : c.wpIn F n P Q a w :=
  wpIn_mono hr fun e a w hh => by
    cases e with
    | normal =>
      obtain ⟨rfl, rfl⟩ := hh
      exact h
    | _ => exact hh.elim

/-- The cells of the wave's edge. -/
theorem edge_cells {base gb g m : Nat} {oe : Option Addr} {ce : Nat} {es : List Known} {L : List (Nat → Int)} {w : World} (h : WaveAt base gb g m (.slice oe L.length ce) es L w) {k : Nat} {p : Nat → Int} (hp : L[k]? = some p) :
    ∃ r, oe = some ⟨r, 0, none⟩ ∧ (r < w.heap.size ∧ r ≠ m) ∧ ∀ j, j < 9 → w.cell? ⟨r, k * 9 + j, none⟩ = some (.int .i8 (p j)) := by
  have hlt := (List.getElem?_eq_some_iff.1 hp).1
  have hrow := h.row
  rcases h.row.2 with ⟨e, h0⟩ | ⟨r, cap, cur, e, _, hb, _⟩
  · omega
  · cases e
    refine ⟨r, rfl, ⟨(Array.getElem?_eq_some_iff.1 hb).1, fun e => ?_⟩, fun j hj => ?_⟩
    · subst e
      obtain ⟨en, cl, h1, _⟩ := h.map
      rw [hb] at h1
      cases h1
    · rw [hrow.cellAt (k * 9 + j) (by omega)]
      exact flatP_at hp hj

set_option maxRecDepth 100000 in
set_option maxHeartbeats 16000000 in
/-- **'grow'.** -/
theorem grow_in (w : World) (hT : TabsIn w) (base gb g m N : Nat) (qs : List (Nat × Nat)) (hN : 2 ≤ N ∧ N ≤ 9) (hq : ∀ q ∈ qs, q.1 < q.2 ∧ q.2 < N) (hbd : BoardAt w gb N (nxs qs)) (ve : Value) (es : List Known) (L : List (Nat → Int)) (hw : WaveAt base gb g m ve es L w)
    (s : Nat → Int) (D : Nat) (hD : D ≤ 1000000) (hok : WaveOK qs N s D es L) :
    CallsIn Fence.wide 8 Tryd.prog 65 #[.pointer (some ⟨g, 0, none⟩)] w (GrewTo base gb g m N qs s D es w) := by
  have h0c : w.cell? ⟨g, 0, none⟩ = some (.pointer (some ⟨gb, 0, none⟩)) := by rw [World.cell?, hw.st]; rfl
  have h1c : w.cell? ⟨g, 1, none⟩ = some (.map (some m)) := by rw [World.cell?, hw.st]; rfl
  have h2c : w.cell? ⟨g, 2, none⟩ = some ve := by rw [World.cell?, hw.st]; rfl
  obtain ⟨oe, ce, rfl⟩ : ∃ oe ce, ve = .slice oe L.length ce := by
    rcases hw.row.2 with ⟨rfl, h⟩ | ⟨g, cap, cur, rfl, _⟩
    · exact ⟨none, 0, by rw [h]⟩
    · exact ⟨_, _, rfl⟩
  have hgl : g < w.heap.size := World.block_lt_of_cell? _ _ h0c
  refine callsIn_of_wp_marks Tryd.func65 rfl trivial ?_ rfl
  simp only [Tryd.ntmps65, List.size_toArray, List.length_cons, List.length_nil, Nat.reduceAdd, Nat.reduceSub, Array.replicate_succ, Array.replicate_zero, List.push_toArray, List.append_toArray, List.nil_append, List.cons_append]
  gi_wp2
  obtain ⟨W0, hW0⟩ : ∃ W0, W0 = (w.alloc (.cells #[.pointer (some ⟨g, 0, none⟩)] 84)).alloc (.cells #[.slice none 0 0] 89) := ⟨_, rfl⟩
  have HG0 : Hid (GrowAt w g m es (.slice none 0 0) [] W0) := by
    rw [hW0]
    have hb : Below w.heap.size w ((w.alloc (.cells #[.pointer (some ⟨g, 0, none⟩)] 84)).alloc (.cells #[.slice none 0 0] 89)) := ((Below.refl _ w).alloc (Nat.le_refl _) _).alloc (by simp) _
    refine ⟨⟨hb.os, hb.tape, hb.output, hb.size, fun k hk _ => hb.block k hk⟩, by simp, (Boxed.new w 84 _).alloc _, ?_, World.ownsRow_nil _ _ _ _, ?_⟩
    · have := Boxed.new (w.alloc (.cells #[.pointer (some ⟨g, 0, none⟩)] 84)) 89 (.slice none 0 0)
      rw [World.size_alloc] at this
      exact this
    · rw [List.append_nil]
      exact hw.map.kept (hb.block m hw.map.lt)
  rw [← hW0]
  have hml := hw.map.lt
  have HOK := Hid.intro hok
  have HW := Hid.intro hw
  have HT := Hid.intro hT
  have HQ := Hid.intro hq
  have HBD := Hid.intro hbd
  clear hW0 hok hw hT hq hbd h0c h1c h2c
  refine wpIn_loop (fun a W => ∃ (u5 u16 u17 u18 u19 u20 u21 u22 u23 u24 u57 : Value) (k : Nat) (Ds : List Nat) (vn : Value) (ns : List Known), (k ≤ L.length ∧ Hid (GrowAt w g m es vn ns W) ∧ Hid (GrowOK qs N s D es L ns fun p _ => ∃ j, j < k ∧ L[j]? = some p) ∧ Hid (MarksAt W (w.heap.size + 2) Ds)) ∧
    a = { tmps := #[.pointer (some ⟨g, 0, none⟩), .pointer (some ⟨w.heap.size, 0, none⟩), .bool false, .pointer (some ⟨w.heap.size + 1, 0, none⟩), undef, u5, undef, undef, undef, undef, .pointer (some ⟨g, 0, none⟩), .pointer (some ⟨g, 0, none⟩), .pointer (some ⟨g, 2, none⟩), .slice oe L.length ce, .int .i64 (L.length : Int), .int .i64 (k : Int), u16, u17, u18, u19, u20, u21, u22, u23, u24, undef, undef, undef, undef, undef, undef, undef, undef, undef, undef, undef, undef, undef, undef, undef, undef, undef, undef, undef, undef, undef, undef, undef, undef, undef, undef, undef, undef, undef, undef, undef, undef, u57, undef, undef, undef, undef, undef, undef, undef], defers := Ds.map Mark }) (fun a _ => L.length - (intOf (a.tmps.getD 15 undef)).toNat) ?start ?round
  case start =>
    exact ⟨_, _, _, _, _, _, _, _, _, _, _, 0, [], _, [], ⟨by omega, HG0, (GrowOK.start HOK.out).mono (fun p _ ⟨j, hj, _⟩ => absurd hj (by omega)), ⟨by simp, fun D hD => by cases hD⟩⟩, rfl⟩
  case round =>
    rintro a wr ⟨u5, u16, u17, u18, u19, u20, u21, u22, u23, u24, u57, k, Ds, vn, ns, ⟨hk, HG, HO, HM⟩, rfl⟩
    clear HG0
    have hLc := (HOK.out.count hN.2).2
    by_cases hlt : k < L.length
    · obtain ⟨p, hp⟩ : ∃ p, L[k]? = some p := ⟨L[k], List.getElem?_eq_getElem hlt⟩
      have HP := Hid.intro hp
      have hpm : p ∈ L := List.mem_of_getElem? hp
      have HPos : Hid (Pos N p) := Hid.intro (((HOK.out.wave.lm p).1 hpm).1.pos HOK.out.pos)
      obtain ⟨h, hph⟩ := HPos.out.ex_hole (by omega) (by omega)
      have HPH := Hid.intro hph
      obtain ⟨r, rfl, hrl, hrc⟩ := edge_cells HW.out HP.out
      have hre : ∀ j, j < 9 → wr.cell? ⟨r, k * 9 + j, none⟩ = some (.int .i8 (p j)) := fun j hj =>
        (World.cell?_of_block (a := ⟨r, k * 9 + j, none⟩) (HG.out.keep.block r hrl.1 (by simpa using hrl.2))).trans (hrc j hj)
      have r0 : wr.cell? ⟨r, k * 9, none⟩ = some (.int .i8 (p 0)) := hre 0 (by omega)
      have r1 := hre 1 (by omega)
      have r2 := hre 2 (by omega)
      have r3 := hre 3 (by omega)
      have r4 := hre 4 (by omega)
      have r5 := hre 5 (by omega)
      have r6 := hre 6 (by omega)
      have r7 := hre 7 (by omega)
      have r8 := hre 8 (by omega)
      have hws := HG.out.size
      clear hp hph hre hrc
      gi_wp2
      obtain ⟨W1, hW1⟩ : ∃ W1, W1 = wr.alloc (.cells (pos9 p) 83) := ⟨_, rfl⟩
      have HB1 : Hid (Below wr.heap.size wr W1) := by rw [hW1]; exact (Below.refl _ wr).alloc (Nat.le_refl _) _
      have HBp1 : Hid (PosBox W1 wr.heap.size p) := by rw [hW1]; exact World.alloc_heap_new _ _
      have hs1 : W1.heap.size = wr.heap.size + 1 := by rw [hW1]; simp
      unfold pos9 at hW1
      rw [← hW1]
      clear hW1 r0 r1 r2 r3 r4 r5 r6 r7 r8
      have HG1 : Hid (GrowAt w g m es vn ns W1) := HG.out.later hml HB1.out
      have HM1 : Hid (MarksAt W1 (w.heap.size + 2) Ds) := HM.out.grown (Below.grow0 HB1.out) (fun r e => by cases e)
      have hgm : g ≠ m := fun e => by
        subst e
        obtain ⟨en, cl, h1, _⟩ := HW.out.map
        rw [HW.out.st] at h1
        cases h1
      have hgb : W1.heap[g]? = w.heap[g]? := HG1.out.keep.block g hgl (by simpa using hgm)
      have d0 := HG1.out.box1.cell
      have d1 : W1.cell? ⟨g, 0, none⟩ = some (.pointer (some ⟨gb, 0, none⟩)) := by rw [World.cell?, hgb, HW.out.st]; rfl
      have e0 := HBp1.out.cell 0 (by omega)
      have e1 := HBp1.out.cell 1 (by omega)
      have e2 := HBp1.out.cell 2 (by omega)
      have e3 := HBp1.out.cell 3 (by omega)
      have e4 := HBp1.out.cell 4 (by omega)
      have e5 := HBp1.out.cell 5 (by omega)
      have e6 := HBp1.out.cell 6 (by omega)
      have e7 := HBp1.out.cell 7 (by omega)
      have e8 := HBp1.out.cell 8 (by omega)
      have HMc := Hid.intro (moves_calls W1.drew gb p)
      unfold pos9 at HMc
      have HVB0 : Hid (∀ b, vn.ownBlock = some b → b ≠ wr.heap.size ∧ b ≠ wr.heap.size + 1 + 1) := fun b hb => by have := (HG.out.row.lt b hb).2; omega
      clear HG HM hgb
      refine region_to (a' := { tmps := #[.pointer (some ⟨g, 0, none⟩), .pointer (some ⟨w.heap.size, 0, none⟩), .bool false, .pointer (some ⟨w.heap.size + 1, 0, none⟩), undef, .pointer (some ⟨wr.heap.size, 0, none⟩), undef, undef, undef, undef, .pointer (some ⟨g, 0, none⟩), .pointer (some ⟨g, 0, none⟩), .pointer (some ⟨g, 2, none⟩), .slice (some ⟨r, 0, none⟩) L.length ce, .int .i64 (L.length : Int), .int .i64 (k : Int), .bool true, .pointer (some ⟨r, k * 9, none⟩), .agg (pos9 p), .pointer (some ⟨g, 0, none⟩), .pointer (some ⟨g, 0, none⟩), .pointer (some ⟨g, 0, none⟩), .pointer (some ⟨gb, 0, none⟩), .agg (pos9 p), .func (.func 74) #[] #[.pointer (some ⟨wr.heap.size + 1, 0, none⟩), .pointer (some ⟨wr.heap.size + 1 + 1, 0, none⟩)], undef, undef, undef, undef, undef, undef, undef, undef, undef, undef, undef, undef, undef, undef, undef, undef, undef, undef, undef, undef, undef, undef, undef, undef, undef, undef, undef, undef, undef, undef, undef, undef, u57, undef, undef, undef, undef, undef, undef, undef], defers := Ds.map Mark }) (w' := ((W1.alloc (.cells #[.pointer (some ⟨gb, 0, none⟩)] 78)).alloc (.cells (pos9 p) 83)).drew) ?rest ?_
      rotate_left
      · unfold pos9
        gi_region_with (gi_at_call 72; refine (anyN HMc.out).mono ?_; rintro e w2 ⟨rfl, rfl⟩)
        all_goals exact ⟨rfl, rfl⟩
      case rest =>
        dsimp only
        clear HMc d0 d1 e0 e1 e2 e3 e4 e5 e6 e7 e8
        obtain ⟨W2, hW2⟩ : ∃ W2, W2 = ((W1.alloc (.cells #[.pointer (some ⟨gb, 0, none⟩)] 78)).alloc (.cells (pos9 p) 83)).drew := ⟨_, rfl⟩
        rw [← hW2]
        have HB2 : Hid (Below W1.heap.size W1 W2) := by rw [hW2]; exact ((((Below.refl _ W1).alloc (Nat.le_refl _) _).alloc (by simp) _).trans ((drewN_below0 _).mono (by simp; omega)))
        have hs2 : W2.heap.size = wr.heap.size + 3 := by rw [hW2]; simp [World.drew, hs1]
        have hb1c : W2.cell? ⟨wr.heap.size + 1, 0, none⟩ = some (.pointer (some ⟨gb, 0, none⟩)) := by
          have := ((Boxed.new W1 78 (.pointer (some ⟨gb, 0, none⟩))).alloc (.cells (pos9 p) 83)).cell
          rw [hs1] at this
          rw [hW2]; exact this
        have HBx : Hid (PosBox W2 (wr.heap.size + 1 + 1) p) := by
          have := World.alloc_heap_new (W1.alloc (.cells #[.pointer (some ⟨gb, 0, none⟩)] 78)) (.cells (pos9 p) 83)
          rw [World.size_alloc, hs1] at this
          rw [hW2]; exact this
        clear hW2
        have HG2 : Hid (GrowAt w g m es vn ns W2) := HG1.out.later hml HB2.out
        have HM2 : Hid (MarksAt W2 (w.heap.size + 2) Ds) := HM1.out.grown (Below.grow0 HB2.out) (fun r e => by cases e)
        have HBp2 : Hid (PosBox W2 wr.heap.size p) := HBp1.out.below HB2.out
        have hT2 := tabs_keep HT.out HG2.out.keep HW.out.map
        have hBD2 := board_keep HBD.out HG2.out.keep HW.out.map
        have hM9 : nxs qs h < 512 := nxs_lt (fun q hm => by have := HQ.out q hm; omega) h
        have hMN : ∀ j, (nxs qs h).testBit j = true → j < N := fun j hj => by
          have := (near_iff (h := h) (t := (j : Int)) HQ.out).2
          have h2 := near_lt HQ.out (nearB_adj (fun q hm => (HQ.out q hm).1) ((nxs_bit (fun q hm => (HQ.out q hm).1) h j).1 hj))
          omega
        obtain ⟨M, hMe⟩ : ∃ M, nxs qs h = M := ⟨_, rfl⟩
        have HME := Hid.intro hMe
        rw [hMe] at hM9 hMN
        clear HB1 HBp1 HB2 HG1 HM1 hs1
        gi_wp2
        have hDlt := HM2.out.lt
        have HVB : Hid (∀ b, vn.ownBlock = some b → b ≠ wr.heap.size ∧ b ≠ wr.heap.size + 1 + 1) := HVB0
        refine wpIn_rangeFunc_ownH rfl (by decide) (gf := 74) (lb := #[.pointer (some ⟨wr.heap.size + 1, 0, none⟩), .pointer (some ⟨wr.heap.size + 1 + 1, 0, none⟩)]) rfl trivial (enters_of Tryd.func74 (by kernel_rfl) rfl)
          (moves_stops 7 (wr.heap.size + 1) (wr.heap.size + 1 + 1) gb N M (nxs qs) p h hN HPH.out hMe hM9 hMN W2 hT2 hb1c HBx.out hBD2) Kp3.trans (Kp3.put hT2.lt (by omega)) (Below.refl _ _) (fun _ => rfl)
          (InnerAt w g m es qs N s D L k p h wr.heap.size (wr.heap.size + 1 + 1) W2.heap.size Ds) (fun _ _ _ => False) (InnerAt.own hml (by omega) (by omega) (by omega)) (fun _ _ _ _ _ hs _ _ => hs)
          ⟨vn, ns, HG2.out, HO.out.mono (fun p' q' hpq _ => hpq.elim id (fun ⟨_, x, hx, _⟩ => by cases hx)), HBp2.out, HBx.out, HM2.out, hDlt, HVB.out⟩
          (fun x a' W => ∃ b7, W2.heap.size ≤ b7 ∧ PosBox W b7 (swapAt p h x.1) ∧ a' = { tmps := #[.pointer (some ⟨g, 0, none⟩), .pointer (some ⟨w.heap.size, 0, none⟩), .bool false, .pointer (some ⟨w.heap.size + 1, 0, none⟩), undef, .pointer (some ⟨wr.heap.size, 0, none⟩), undef, .pointer (some ⟨b7, 0, none⟩), undef, undef, .pointer (some ⟨g, 0, none⟩), .pointer (some ⟨g, 0, none⟩), .pointer (some ⟨g, 2, none⟩), .slice (some ⟨r, 0, none⟩) L.length ce, .int .i64 (L.length : Int), .int .i64 (k : Int), .bool true, .pointer (some ⟨r, k * 9, none⟩), .agg (pos9 p), .pointer (some ⟨g, 0, none⟩), .pointer (some ⟨g, 0, none⟩), .pointer (some ⟨g, 0, none⟩), .pointer (some ⟨gb, 0, none⟩), .agg (pos9 p), .func (.func 74) #[] #[.pointer (some ⟨wr.heap.size + 1, 0, none⟩), .pointer (some ⟨wr.heap.size + 1 + 1, 0, none⟩)], .int .i64 ((x.1 : Nat) : Int), .agg (pos9 (swapAt p h x.1)), undef, undef, undef, undef, undef, undef, undef, undef, undef, undef, undef, undef, undef, undef, undef, undef, undef, undef, undef, undef, undef, undef, undef, undef, undef, undef, undef, undef, undef, undef, u57, undef, undef, undef, undef, undef, undef, undef], defers := [] })
          (fun x a' _ X Y row hs hg hr => by
            obtain ⟨b7, h1, h2, h3⟩ := hs
            refine ⟨b7, h1, h2.kept (hg.block _ h2.lt (fun e => ?_)), h3⟩
            obtain ⟨_, o, ho, hf⟩ := hr b7 e.symm
            rw [show X.heap[b7]? = _ from h2] at ho
            cases ho
            cases hf)
          ?assign ?body ?done ?stop
        case assign =>
          intro l pre x W K hi hK
          have hW2W : W2.heap.size ≤ W.heap.size := by
            obtain ⟨_, _, _, _, _, h4, _⟩ := hi
            have := h4.lt
            omega
          have hb2l : wr.heap.size + 1 + 1 < W.heap.size := by omega
          have h2l := hT2.lt
          unfold nbV pos9
          gi_wp2
          exact hK _ _ ((KeepsOthers.alloc _ _).from _) (Kp3.below hb2l (by omega) ((Below.refl _ W).alloc (Nat.le_refl _) _)) (OwnFrom.alloc (InnerAt.own hml (by omega) (by omega) (by omega)) _ hi) ⟨W.heap.size, hW2W, World.alloc_heap_new _ _, rfl⟩
        case body =>
          rintro l pre x a' W hl hrr ⟨vn', ns', hGr, hO2, hBp, hB2, hM2, hDs, hVb⟩ ⟨b7, hb7, hB7, rfl⟩ hlen
          have HGr := Hid.intro hGr
          have HO2 := Hid.intro hO2
          have HBp := Hid.intro hBp
          have HB2 := Hid.intro hB2
          have HM3 := Hid.intro hM2
          have HDs := Hid.intro hDs
          have HVb := Hid.intro hVb
          have HB7 := Hid.intro hB7
          clear hGr hO2 hBp hB2 hM2 hDs hVb hB7 HG2 HO HBp2 HBx HM2 hT2 hBD2 hb1c hrr
          dsimp only
          gi_wp2
          obtain ⟨q, hqe⟩ : ∃ q, swapAt p h x.1 = q := ⟨_, rfl⟩
          rw [hqe] at HB7
          rw [hqe]
          have HQE := Hid.intro hqe
          clear hqe
          have hc1 := HGr.out.box1.cell
          have hgb : W.heap[g]? = w.heap[g]? := HGr.out.keep.block g hgl (by simpa using hgm)
          have hcg : W.cell? ⟨g, 1, none⟩ = some (.map (some m)) := by rw [World.cell?, hgb, HW.out.st]; rfl
          have hN0 := HB7.out.cell
          have n0 := hN0 0 (by omega)
          have n1 := hN0 1 (by omega)
          have n2 := hN0 2 (by omega)
          have n3 := hN0 3 (by omega)
          have n4 := hN0 4 (by omega)
          have n5 := hN0 5 (by omega)
          have n6 := hN0 6 (by omega)
          have n7 := hN0 7 (by omega)
          have n8 := hN0 8 (by omega)
          have hWs := HGr.out.size
          obtain ⟨bb, dd, ok, hlk, hok2⟩ := look_any (es := es ++ ns') q (W := W) HGr.out.map (.cells Z107 107)
          have m0 : (W.alloc (.cells Z107 107)).cell? ⟨b7, 0, none⟩ = _ := cell_al _ n0
          have m1 : (W.alloc (.cells Z107 107)).cell? ⟨b7, 1, none⟩ = _ := cell_al _ n1
          have m2 : (W.alloc (.cells Z107 107)).cell? ⟨b7, 2, none⟩ = _ := cell_al _ n2
          have m3 : (W.alloc (.cells Z107 107)).cell? ⟨b7, 3, none⟩ = _ := cell_al _ n3
          have m4 : (W.alloc (.cells Z107 107)).cell? ⟨b7, 4, none⟩ = _ := cell_al _ n4
          have m5 : (W.alloc (.cells Z107 107)).cell? ⟨b7, 5, none⟩ = _ := cell_al _ n5
          have m6 : (W.alloc (.cells Z107 107)).cell? ⟨b7, 6, none⟩ = _ := cell_al _ n6
          have m7 : (W.alloc (.cells Z107 107)).cell? ⟨b7, 7, none⟩ = _ := cell_al _ n7
          have m8 : (W.alloc (.cells Z107 107)).cell? ⟨b7, 8, none⟩ = _ := cell_al _ n8
          have hc1' : (W.alloc (.cells Z107 107)).cell? ⟨w.heap.size, 0, none⟩ = _ := cell_al _ hc1
          have hcg' : (W.alloc (.cells Z107 107)).cell? ⟨g, 1, none⟩ = _ := cell_al _ hcg
          have l0 := hlk.1
          have l1 := hlk.2
          have HOK2 := Hid.intro hok2
          clear hN0 hlk hok2 hgb
          refine wpIn_region_lexS (ro := some l) [9, 10] [[0, 1], [0, 1], [0, 1], [0, 1], [0, 1], [0, 1], [0, 1], [0, 1], [0, 1, 2], [0, 1], [1, 2], [2]]
            (fun s => match s with | 0 => W.drew | 1 => W.drew.alloc (.cells Z107 107) | _ => W.drew.alloc (.cells (stepA bb dd) 107)) follows 65 rfl (by kernel_rfl) rfl ?_
          refine LexS.read (.pointer (some ⟨g, 0, none⟩)) rfl ?_ ?_
          · intro s hs
            simp only [List.mem_cons, List.not_mem_nil, or_false] at hs
            rcases hs with rfl | rfl <;> simp [execOp, go_sem, hc1, hc1']
          simp only [Go.Act.put, List.setIfInBounds_toArray, List.set_cons_succ, List.set_cons_zero, Nat.zero_add, Nat.reduceAdd]
          refine LexS.read (.pointer (some ⟨g, 0, none⟩)) rfl ?_ ?_
          · intro s hs
            simp only [List.mem_cons, List.not_mem_nil, or_false] at hs
            rcases hs with rfl | rfl <;> simp [execOp, go_sem]
          simp only [Go.Act.put, List.setIfInBounds_toArray, List.set_cons_succ, List.set_cons_zero, Nat.zero_add, Nat.reduceAdd]
          refine LexS.read (.pointer (some ⟨g, 1, none⟩)) rfl ?_ ?_
          · intro s hs
            simp only [List.mem_cons, List.not_mem_nil, or_false] at hs
            rcases hs with rfl | rfl <;> simp [execOp, go_sem]
          simp only [Go.Act.put, List.setIfInBounds_toArray, List.set_cons_succ, List.set_cons_zero, Nat.zero_add, Nat.reduceAdd]
          refine LexS.read (.map (some m)) rfl ?_ ?_
          · intro s hs
            simp only [List.mem_cons, List.not_mem_nil, or_false] at hs
            rcases hs with rfl | rfl <;> simp [execOp, go_sem, hcg, hcg']
          simp only [Go.Act.put, List.setIfInBounds_toArray, List.set_cons_succ, List.set_cons_zero, Nat.zero_add, Nat.reduceAdd]
          refine LexS.read (.agg (pos9 q)) rfl ?_ ?_
          · intro s hs
            simp only [List.mem_cons, List.not_mem_nil, or_false] at hs
            rcases hs with rfl | rfl <;> simp [execOp, go_sem, n0, n1, n2, n3, n4, n5, n6, n7, n8, m0, m1, m2, m3, m4, m5, m6, m7, m8, pos9]
          simp only [Go.Act.put, List.setIfInBounds_toArray, List.set_cons_succ, List.set_cons_zero, Nat.zero_add, Nat.reduceAdd]
          refine LexS.read (.tuple #[stepV bb dd, .bool ok]) rfl ?_ ?_
          · intro s hs
            simp only [List.mem_cons, List.not_mem_nil, or_false] at hs
            rcases hs with rfl | rfl <;> simp [execOp, go_sem, l0, l1]
          simp only [Go.Act.put, List.setIfInBounds_toArray, List.set_cons_succ, List.set_cons_zero, Nat.zero_add, Nat.reduceAdd]
          refine LexS.read (.tuple #[stepV bb dd, .bool ok]) rfl ?_ ?_
          · intro s hs
            simp only [List.mem_cons, List.not_mem_nil, or_false] at hs
            rcases hs with rfl | rfl <;> simp [execOp, go_sem]
          simp only [Go.Act.put, List.setIfInBounds_toArray, List.set_cons_succ, List.set_cons_zero, Nat.zero_add, Nat.reduceAdd]
          refine LexS.read (stepV bb dd) rfl ?_ ?_
          · intro s hs
            simp only [List.mem_cons, List.not_mem_nil, or_false] at hs
            rcases hs with rfl | rfl <;> simp [execOp, go_sem]
          simp only [Go.Act.put, List.setIfInBounds_toArray, List.set_cons_succ, List.set_cons_zero, Nat.zero_add, Nat.reduceAdd]
          refine LexS.read (.bool ok) rfl ?_ ?_
          · intro s hs
            simp only [List.mem_cons, List.not_mem_nil, or_false] at hs
            rcases hs with rfl | rfl | rfl <;> simp [execOp, go_sem]
          simp only [Go.Act.put, List.setIfInBounds_toArray, List.set_cons_succ, List.set_cons_zero, Nat.zero_add, Nat.reduceAdd]
          refine LexS.write (.pointer (some ⟨W.heap.size, 0, none⟩)) 0 rfl ?_ ?_
          · simp [execOp, go_sem, Z107]
          simp only [Go.Act.put, List.setIfInBounds_toArray, List.set_cons_succ, List.set_cons_zero, Nat.zero_add, Nat.reduceAdd]
          refine LexS.store 1 rfl ?_ ?_
          · simp [execOp, go_sem, Z107, stepV, stepA]
          simp only [Go.Act.put, List.setIfInBounds_toArray, List.set_cons_succ, List.set_cons_zero, Nat.zero_add, Nat.reduceAdd]
          refine LexS.read (.bool ok) rfl ?_ ?_
          · intro s hs
            simp only [List.mem_cons, List.not_mem_nil, or_false] at hs
            subst hs
            simp [execOp, go_sem]
          simp only [Go.Act.put, List.setIfInBounds_toArray, List.set_cons_succ, List.set_cons_zero, Nat.zero_add, Nat.reduceAdd]
          refine LexS.done ?_
          simp only [List.length_cons, List.length_nil, Nat.reduceAdd, Nat.zero_add]
          obtain ⟨W3, hW3⟩ : ∃ W3, W3 = W.drew.alloc (.cells (stepA bb dd) 107) := ⟨_, rfl⟩
          have HB3 : Hid (Below W.heap.size W W3) := by rw [hW3]; exact (drewN_below0 W).trans ((Below.refl _ W.drew).alloc (Nat.le_refl _) _)
          rw [← hW3]
          clear hW3 l0 l1 n0 n1 n2 n3 n4 n5 n6 n7 n8 m0 m1 m2 m3 m4 m5 m6 m7 m8 hc1 hcg hc1' hcg'
          have HG3 : Hid (GrowAt w g m es vn' ns' W3) := HGr.out.later hml HB3.out
          have HP3 : Hid (PosBox W3 wr.heap.size p) := HBp.out.below HB3.out
          have HX3 : Hid (PosBox W3 (wr.heap.size + 1 + 1) p) := HB2.out.below HB3.out
          have HQ3 : Hid (PosBox W3 b7 q) := HB7.out.below HB3.out
          have HMk3 : Hid (MarksAt W3 (w.heap.size + 2) Ds) := HM3.out.grown (Below.grow0 HB3.out) (fun r e => by cases e)
          have hb2l : wr.heap.size + 1 + 1 < W.heap.size := HB2.out.lt
          have HMov : Hid (Mov qs N p q) := ⟨HPos.out, h, x.1, HPH.out, x.2.1, (near_iff (h := h) (t := ((x.1 : Nat) : Int)) HQ.out).2 ⟨⟨by omega, by have := x.2.1; omega⟩, by rw [HME.out]; exact x.2.2⟩, HQE.out.symm⟩
          have HNX : Hid (∀ p' q', ((∃ j, j < k ∧ L[j]? = some p') ∨ (p' = p ∧ ∃ y ∈ pre ++ [x], q' = swapAt p h y.1)) → Mov qs N p' q' → ((∃ j, j < k ∧ L[j]? = some p') ∨ (p' = p ∧ ∃ y ∈ pre, q' = swapAt p h y.1)) ∨ q' = q) := fun p' q' hpq _ => by
            rcases hpq with h1 | ⟨e, y, hy, e2⟩
            · exact .inl (.inl h1)
            · rcases List.mem_append.1 hy with hy | hy
              · exact .inl (.inr ⟨e, y, hy, e2⟩)
              · simp at hy
                subst hy
                exact .inr (e2.trans HQE.out)
          have hKF : KeepsFrom W2.heap.size W W3 := KeepsFrom.of_grownBy (Below.grow0 HB3.out) (fun j e => by cases e)
          have hKP : Kp3 (wr.heap.size + 1 + 1) W W3 := Kp3.below hb2l (by omega) HB3.out
          have HKF := Hid.intro hKF
          have HKP := Hid.intro hKP
          clear hKF hKP HGr HBp HB2 HB7 HM3
          rcases HOK2.out with ⟨hok3, hk3⟩ | ⟨hok3, hk3⟩
          · have HK3 := Hid.intro hk3
            subst hok3
            clear HOK2 hk3
            gi_wp2
            obtain ⟨kq, hkq⟩ := HK3.out
            exact ⟨HKF.out, HKP.out, vn', ns', HG3.out, HO2.out.old hN.2 HMov.out.pos hkq HNX.out, HP3.out, HX3.out, HMk3.out, HDs.out, HVb.out⟩
          · have HK3 := Hid.intro hk3
            subst hok3
            clear HOK2
            obtain ⟨W4, hU, hUM, hUg⟩ := update_new (w := W3.drew) (m := m) HG3.out.map (z := q) (b := p) (d := D + 1) hk3
            obtain ⟨kp, hkp, hkd⟩ := HO2.out.depth hN.2 hpm
            have hlp := look_there (w := W3.drew) (m := m) HG3.out.map hkp false
            rw [hkd] at hlp
            obtain ⟨kb, hkb⟩ : ∃ kb, kp.before = kb := ⟨_, rfl⟩
            rw [hkb] at hlp
            rw [show ((D + 1 : Nat) : Int) = (D : Int) + 1 from by simp] at hU
            have hfl := field107_run kb (D : Int) W3.drew
            have hDw : IntKind.i64.wrap ((D : Int) + 1) = (D : Int) + 1 := by rw [IntKind.wrap_i64]; omega
            have HUM := Hid.intro hUM
            have HUG := Hid.intro hUg
            clear hk3 hUM hUg hkp hkd hkb
            have hc1 := HG3.out.box1.cell
            have hcg : W3.cell? ⟨g, 1, none⟩ = some (.map (some m)) := by rw [World.cell?, HG3.out.keep.block g hgl (by simpa using hgm), HW.out.st]; rfl
            have hN0 := HQ3.out.cell
            have hP0 := HP3.out.cell
            have n0 := hN0 0 (by omega)
            have o0 := hP0 0 (by omega)
            have n1 := hN0 1 (by omega)
            have o1 := hP0 1 (by omega)
            have n2 := hN0 2 (by omega)
            have o2 := hP0 2 (by omega)
            have n3 := hN0 3 (by omega)
            have o3 := hP0 3 (by omega)
            have n4 := hN0 4 (by omega)
            have o4 := hP0 4 (by omega)
            have n5 := hN0 5 (by omega)
            have o5 := hP0 5 (by omega)
            have n6 := hN0 6 (by omega)
            have o6 := hP0 6 (by omega)
            have n7 := hN0 7 (by omega)
            have o7 := hP0 7 (by omega)
            have n8 := hN0 8 (by omega)
            have o8 := hP0 8 (by omega)
            clear hN0 hP0
            gi_wp2
            refine wpIn_region_lexS (ro := some l) [15] [[0], [0], [0], [0], [0], [0], [0], [0], [0], [0], [0], [0], [0], [0], [0], [0, 1]]
              (fun s => match s with | 0 => W3.drew | _ => W4) follows 65 rfl (by kernel_rfl) rfl ?_
            refine LexS.read (.pointer (some ⟨g, 0, none⟩)) rfl ?_ ?_
            · intro s hs
              simp only [List.mem_cons, List.not_mem_nil, or_false] at hs
              subst hs
              simp [execOp, go_sem, hc1]
            simp only [Go.Act.put, List.setIfInBounds_toArray, List.set_cons_succ, List.set_cons_zero, Nat.zero_add, Nat.reduceAdd]
            refine LexS.read (.pointer (some ⟨g, 0, none⟩)) rfl ?_ ?_
            · intro s hs
              simp only [List.mem_cons, List.not_mem_nil, or_false] at hs
              subst hs
              simp [execOp, go_sem]
            simp only [Go.Act.put, List.setIfInBounds_toArray, List.set_cons_succ, List.set_cons_zero, Nat.zero_add, Nat.reduceAdd]
            refine LexS.read (.pointer (some ⟨g, 1, none⟩)) rfl ?_ ?_
            · intro s hs
              simp only [List.mem_cons, List.not_mem_nil, or_false] at hs
              subst hs
              simp [execOp, go_sem]
            simp only [Go.Act.put, List.setIfInBounds_toArray, List.set_cons_succ, List.set_cons_zero, Nat.zero_add, Nat.reduceAdd]
            refine LexS.read (.map (some m)) rfl ?_ ?_
            · intro s hs
              simp only [List.mem_cons, List.not_mem_nil, or_false] at hs
              subst hs
              simp [execOp, go_sem, hcg]
            simp only [Go.Act.put, List.setIfInBounds_toArray, List.set_cons_succ, List.set_cons_zero, Nat.zero_add, Nat.reduceAdd]
            refine LexS.read (.agg (pos9 q)) rfl ?_ ?_
            · intro s hs
              simp only [List.mem_cons, List.not_mem_nil, or_false] at hs
              subst hs
              simp [execOp, go_sem, n0, n1, n2, n3, n4, n5, n6, n7, n8, pos9]
            simp only [Go.Act.put, List.setIfInBounds_toArray, List.set_cons_succ, List.set_cons_zero, Nat.zero_add, Nat.reduceAdd]
            refine LexS.read (.agg (pos9 p)) rfl ?_ ?_
            · intro s hs
              simp only [List.mem_cons, List.not_mem_nil, or_false] at hs
              subst hs
              simp [execOp, go_sem, o0, o1, o2, o3, o4, o5, o6, o7, o8, pos9]
            simp only [Go.Act.put, List.setIfInBounds_toArray, List.set_cons_succ, List.set_cons_zero, Nat.zero_add, Nat.reduceAdd]
            refine LexS.read (.pointer (some ⟨g, 0, none⟩)) rfl ?_ ?_
            · intro s hs
              simp only [List.mem_cons, List.not_mem_nil, or_false] at hs
              subst hs
              simp [execOp, go_sem, hc1]
            simp only [Go.Act.put, List.setIfInBounds_toArray, List.set_cons_succ, List.set_cons_zero, Nat.zero_add, Nat.reduceAdd]
            refine LexS.read (.pointer (some ⟨g, 0, none⟩)) rfl ?_ ?_
            · intro s hs
              simp only [List.mem_cons, List.not_mem_nil, or_false] at hs
              subst hs
              simp [execOp, go_sem]
            simp only [Go.Act.put, List.setIfInBounds_toArray, List.set_cons_succ, List.set_cons_zero, Nat.zero_add, Nat.reduceAdd]
            refine LexS.read (.pointer (some ⟨g, 1, none⟩)) rfl ?_ ?_
            · intro s hs
              simp only [List.mem_cons, List.not_mem_nil, or_false] at hs
              subst hs
              simp [execOp, go_sem]
            simp only [Go.Act.put, List.setIfInBounds_toArray, List.set_cons_succ, List.set_cons_zero, Nat.zero_add, Nat.reduceAdd]
            refine LexS.read (.map (some m)) rfl ?_ ?_
            · intro s hs
              simp only [List.mem_cons, List.not_mem_nil, or_false] at hs
              subst hs
              simp [execOp, go_sem, hcg]
            simp only [Go.Act.put, List.setIfInBounds_toArray, List.set_cons_succ, List.set_cons_zero, Nat.zero_add, Nat.reduceAdd]
            refine LexS.read (.agg (pos9 p)) rfl ?_ ?_
            · intro s hs
              simp only [List.mem_cons, List.not_mem_nil, or_false] at hs
              subst hs
              simp [execOp, go_sem, o0, o1, o2, o3, o4, o5, o6, o7, o8, pos9]
            simp only [Go.Act.put, List.setIfInBounds_toArray, List.set_cons_succ, List.set_cons_zero, Nat.zero_add, Nat.reduceAdd]
            refine LexS.read (stepV kb (D : Int)) rfl ?_ ?_
            · intro s hs
              simp only [List.mem_cons, List.not_mem_nil, or_false] at hs
              subst hs
              simp [execOp, go_sem, hlp]
            simp only [Go.Act.put, List.setIfInBounds_toArray, List.set_cons_succ, List.set_cons_zero, Nat.zero_add, Nat.reduceAdd]
            refine LexS.read (.int .i64 (D : Int)) rfl ?_ ?_
            · intro s hs
              simp only [List.mem_cons, List.not_mem_nil, or_false] at hs
              subst hs
              simp [execOp, go_sem, hfl]
            simp only [Go.Act.put, List.setIfInBounds_toArray, List.set_cons_succ, List.set_cons_zero, Nat.zero_add, Nat.reduceAdd]
            refine LexS.read (.int .i64 ((D : Int) + 1)) rfl ?_ ?_
            · intro s hs
              simp only [List.mem_cons, List.not_mem_nil, or_false] at hs
              subst hs
              simp [execOp, go_sem, hDw]
            simp only [Go.Act.put, List.setIfInBounds_toArray, List.set_cons_succ, List.set_cons_zero, Nat.zero_add, Nat.reduceAdd]
            refine LexS.read (stepV p ((D : Int) + 1)) rfl ?_ ?_
            · intro s hs
              simp only [List.mem_cons, List.not_mem_nil, or_false] at hs
              subst hs
              simp [execOp, go_sem, stepV, pos9]
            simp only [Go.Act.put, List.setIfInBounds_toArray, List.set_cons_succ, List.set_cons_zero, Nat.zero_add, Nat.reduceAdd]
            refine LexS.store 0 rfl ?_ ?_
            · simp [execOp, go_sem, hU]
            simp only [Go.Act.put, List.setIfInBounds_toArray, List.set_cons_succ, List.set_cons_zero, Nat.zero_add, Nat.reduceAdd]
            refine LexS.done ?_
            simp only [List.length_cons, List.length_nil, Nat.reduceAdd, Nat.zero_add]
            have HB4 : Hid (W3.grownBy W4 (some m)) := ⟨HUG.out.os, HUG.out.tape, HUG.out.output, HUG.out.size, HUG.out.block⟩
            have hs34 := HB4.out.size
            have HQ4 : Hid (PosBox W4 b7 q) := HQ3.out.kept (HB4.out.block b7 HQ3.out.lt (fun e => by cases e; omega))
            have hb24 : Boxed W4 (w.heap.size + 1) 89 vn' := HG3.out.box2.kept HB4.out (fun e => by cases e; omega)
            have hN4 := HQ4.out.cell
            have n0 := hN4 0 (by omega)
            have n1 := hN4 1 (by omega)
            have n2 := hN4 2 (by omega)
            have n3 := hN4 3 (by omega)
            have n4 := hN4 4 (by omega)
            have n5 := hN4 5 (by omega)
            have n6 := hN4 6 (by omega)
            have n7 := hN4 7 (by omega)
            have n8 := hN4 8 (by omega)
            have hcn := hb24.cell
            have hcnt := HO2.out.count hN.2
            have HR4 : Hid (W4.ownsRow (w.heap.size + 2) 83 9 vn' ns'.length (flatP (ns'.map (·.at_)))) := HG3.out.row.kept HB4.out (by
              cases hv : vn'.ownBlock with
              | none => exact .inl rfl
              | some b => exact .inr (fun e => by cases e; have := (HG3.out.row.lt _ hv).1; omega))
            have hw3s := HG3.out.size
            have HNK : Hid (GrowOK qs N s D es L (ns' ++ [⟨q, p, D + 1⟩]) _) := HO2.out.new hN.2 hpm HMov.out HK3.out HNX.out
            clear hN4 hb24 hU hlp hfl hDw hc1 hcg o0 o1 o2 o3 o4 o5 o6 o7 o8
            gi_wp2_with (gi_at_builtin; refine stop ?_)
            unfold Stop
            refine wpListIn_append_own _ rfl _ _ 89 rfl (w.heap.size + 2) 83 Tryd.t83 _ 9 9 u89_sl t83_info t83_zero t83_size t83_bytes rfl (by decide) _ _ _ rfl (World.ownsRow.alloc HR4.out _) ⟨W4.heap.size, 0, none⟩ 1 1 (pos9 q).toList rfl rfl (pos_new W4 q) (pos_one q) (by unfold maxLen; omega) (by omega) (by simp; omega) ?_
            intro v2 w5 hown2 hgrow2 _
            obtain ⟨g', cap', rfl⟩ := ownsRow_succ hown2
            obtain ⟨hbx, hga⟩ := HG3.out.add hml HUM.out HB4.out hown2 hgrow2
            have hcx := hbx.cell
            have hfx := hbx.frozen
            have HGA := Hid.intro hga
            have HGr2 := Hid.intro hgrow2
            clear hga hbx hown2 hgrow2 hcn n0 n1 n2 n3 n4 n5 n6 n7 n8
            gi_wp2
            have HEnd : Hid (∀ k, k < W3.heap.size → k ≠ m → k ≠ w.heap.size + 1 → vn'.ownBlock ≠ some k → (w5.setCell ⟨w.heap.size + 1, 0, none⟩ (.slice (some ⟨g', 0, none⟩) (ns'.length + 1) cap')).heap[k]? = W3.heap[k]?) := fun k hk h1 h2 h3 =>
              (Below.heap_setCell w5 ⟨w.heap.size + 1, 0, none⟩ _ k h2).trans ((HGr2.out.block k (by simp; omega) (fun e => h3 e.symm)).trans ((Below.heap_alloc W4 _ k (by omega)).trans (HB4.out.block k hk (fun e => by cases e; exact h1 rfl))))
            have hs5 : W3.heap.size ≤ (w5.setCell ⟨w.heap.size + 1, 0, none⟩ (.slice (some ⟨g', 0, none⟩) (ns'.length + 1) cap')).heap.size := by
              have := HGr2.out.size
              simp [World.setCell] at this ⊢
              omega
            have hpm0 : wr.heap.size ≠ m ∧ wr.heap.size + 1 + 1 ≠ m := by omega
            have HPE : Hid (PosBox (w5.setCell ⟨w.heap.size + 1, 0, none⟩ (.slice (some ⟨g', 0, none⟩) (ns'.length + 1) cap')) wr.heap.size p) := HP3.out.kept (HEnd.out _ HP3.out.lt hpm0.1 (by omega) (fun e => (HVb.out _ e).1 rfl))
            have HXE : Hid (PosBox (w5.setCell ⟨w.heap.size + 1, 0, none⟩ (.slice (some ⟨g', 0, none⟩) (ns'.length + 1) cap')) (wr.heap.size + 1 + 1) p) := HX3.out.kept (HEnd.out _ HX3.out.lt hpm0.2 (by omega) (fun e => (HVb.out _ e).2 rfl))
            have hne : ∀ b, (.slice (some ⟨g', 0, none⟩) (ns'.length + 1) cap' : Value).ownBlock = some b → b ≠ wr.heap.size ∧ b ≠ wr.heap.size + 1 + 1 := fun b hb => by
              have hrow := HGA.out.row
              constructor
              · intro e
                subst e
                exact HMov.out.ne (row_box hrow HPE.out hb) hN.2 HQ.out
              · intro e
                subst e
                exact HMov.out.ne (row_box hrow HXE.out hb) hN.2 HQ.out
            have hT01 := HT.out.ne_map HW.out.map
            have hTl := HT.out.lt
            have hW3s := HB3.out.size
            refine ⟨HKF.out.trans ⟨hs5, fun k o hB hk ho => ?_⟩, HKP.out.trans ⟨hs5, fun k hk => HEnd.out k ?_ ?_ ?_ ?_⟩, _, _, HGA.out, HNK.out, HPE.out, HXE.out, HMk3.out.kept (fun d hd => HEnd.out d (HMk3.out.lt d hd) ?_ ?_ ?_), HDs.out, hne⟩
            · refine (HEnd.out k (Array.getElem?_eq_some_iff.1 hk).1 (by omega) (by omega) (fun e => ?_)).trans hk
              obtain ⟨cur, hc⟩ := row_cells HG3.out.row e
              rw [hc] at hk
              cases hk
              cases ho
            · rcases hk with rfl | rfl | rfl <;> omega
            · rcases hk with rfl | rfl | rfl
              · exact fun e => hT01.1 e.symm
              · exact fun e => hT01.2 e.symm
              · omega
            · rcases hk with rfl | rfl | rfl <;> omega
            · intro e
              have h1 := (HG3.out.row.lt _ e).1
              rcases hk with rfl | rfl | rfl
              · omega
              · omega
              · exact (HVb.out _ e).2 rfl
            · have := (HMk3.out.2 d hd).1; omega
            · have := (HMk3.out.2 d hd).1; omega
            · intro e
              obtain ⟨cur, hc⟩ := row_cells HG3.out.row e
              rw [(HMk3.out.2 d hd).2] at hc
              cases hc
        case done =>
          rintro D0 xs W hD0 hS ⟨vn', ns', hGr, hO2, hBp, hB2, hM2, hDs, hVb⟩ hK
          have HGr := Hid.intro hGr
          have HMk : Hid (MarksAt W (w.heap.size + 2) (D0 :: Ds)) := ⟨List.nodup_cons.2 ⟨fun hm => by have := hDs D0 hm; omega, hM2.1⟩, fun d hd => by
            rcases List.mem_cons.1 hd with rfl | hd
            · exact ⟨by omega, hK⟩
            · exact hM2.2 d hd⟩
          have HO3 : Hid (GrowOK qs N s D es L ns' fun p' _ => ∃ j, j < k + 1 ∧ L[j]? = some p') := hO2.mono fun p' q' ⟨j, hj, e⟩ hmv => by
            by_cases hjk : j = k
            · subst hjk
              have e2 : p' = p := by
                have := HP.out
                rw [e] at this
                exact Option.some.inj this
              subst e2
              obtain ⟨_, h', t, h1, h2, h3, h4⟩ := hmv
              have hhh := h1.unique HPH.out
              subst hhh
              have h5 := ((near_iff (h := h') (t := (t : Int)) HQ.out).1 h3).2
              rw [HME.out] at h5
              obtain ⟨y, hy, hy2⟩ := hS t h2 h5
              exact .inr ⟨rfl, y, hy, by rw [hy2]; exact h4⟩
            · exact .inl ⟨j, by omega, e⟩
          clear hGr hO2 hBp hB2 hM2 hDs hVb hS hK HG2 HO HBp2 HBx HM2 hT2 hBD2 hb1c HVB HVB0
          gi_wp2
          exact ⟨⟨_, _, _, _, _, _, _, _, _, _, _, k + 1, D0 :: Ds, vn', ns', ⟨by omega, HGr, HO3, HMk⟩, rfl⟩, by simp [intOf]; omega⟩
        case stop =>
          rintro D0 c pre W _ _ h _
          exact h.elim
    · have hkL : k = L.length := by omega
      subst hkL
      obtain ⟨on, cn, rfl⟩ : ∃ on cn, vn = .slice on ns.length cn := by
        rcases HG.out.row.2 with ⟨rfl, h⟩ | ⟨g, cap, cur, rfl, _⟩
        · exact ⟨none, 0, by rw [h]⟩
        · exact ⟨_, _, rfl⟩
      have hws := HG.out.size
      have hgm : g ≠ m := fun e => by
        subst e
        obtain ⟨en, cl, h1, _⟩ := HW.out.map
        rw [HW.out.st] at h1
        cases h1
      have HGB : Hid (wr.heap[g]? = w.heap[g]?) := HG.out.keep.block g hgl (by simpa using hgm)
      have d0 := HG.out.box1.cell
      have d1 : wr.cell? ⟨g, 2, none⟩ = some (.slice oe L.length ce) := by rw [World.cell?, HGB.out, HW.out.st]; rfl
      have d2 : wr.frozen? ⟨g, 2, none⟩ = false := by rw [World.frozen?, HGB.out, HW.out.st]; rfl
      have d3 := HG.out.box2.cell
      have hcnt := HO.out.count hN.2
      gi_wp2
      have hlo := HW.out.lo
      refine leaves_marks (B := w.heap.size + 2) Ds _ (HM.out.kept (fun d hd => Below.heap_setCell wr ⟨g, 2, none⟩ _ d (by have := (HM.out.2 d hd).1; show d ≠ g; omega))) fun W' hU => ?_
      refine ⟨_, results_tmp rfl _ _ _, ns, .slice on ns.length cn, rfl, ⟨hlo, ?_, ?_, ?_⟩, ?_, ?_, fun b hb => by have := (HG.out.row.lt _ hb).1; omega⟩
      · exact (hU.low g (by omega)).trans (st_set (HGB.out.trans HW.out.st))
      · exact HG.out.map.kept ((hU.low m (by omega)).trans (Below.heap_setCell wr ⟨g, 2, none⟩ _ m (fun e => hgm e.symm)))
      · rw [List.length_map]
        refine row_unmark ((row_base HG.out.row (by omega)).kept (grownBy_set wr ⟨g, 2, none⟩ _) ?_) hU
        cases hv : (Value.slice on ns.length cn).ownBlock with
        | none => exact .inl rfl
        | some b => exact .inr (fun e => by
            have h1 := (HG.out.row.lt _ hv).1
            injection e with e
            have e2 : b = g := e
            omega)
      · exact (HO.out.mono (fun p' _ hp' _ => by
          obtain ⟨j, hj, e⟩ := List.getElem_of_mem hp'
          exact ⟨j, hj, by rw [List.getElem?_eq_getElem hj, e]⟩)).finish
      · have hk := HG.out.keep
        refine ⟨hU.os.trans hk.os, hU.tape.trans hk.tape, hU.output.trans hk.output, ?_, fun k hk1 hk2 hk3 => ?_⟩
        · rw [hU.size]
          simp [World.setCell]
          omega
        · exact (hU.low k (by omega)).trans ((Below.heap_setCell wr ⟨g, 2, none⟩ _ k hk2).trans (hk.block k hk1 (by simpa using hk3)))

/-- **'grow' reaches what is one move further.** -/
theorem grow_calls (w : World) (hT : TabsIn w) (base gb g m N : Nat) (qs : List (Nat × Nat)) (hN : 2 ≤ N ∧ N ≤ 9) (hq : ∀ q ∈ qs, q.1 < q.2 ∧ q.2 < N) (hbd : BoardAt w gb N (nxs qs)) (ve : Value) (es : List Known) (L : List (Nat → Int)) (hw : WaveAt base gb g m ve es L w)
    (s : Nat → Int) (D : Nat) (hD : D ≤ 1000000) (hok : WaveOK qs N s D es L) : CallsIn Fence.wide 0 Tryd.prog 65 #[.pointer (some ⟨g, 0, none⟩)] w (GrewTo base gb g m N qs s D es w) :=
  callsIn_wide.2 (callsIn_wide.1 (grow_in w hT base gb g m N qs hN hq hbd ve es L hw s D hD hok))
end Go.Eng

namespace Go.Eng
open Go.RowKit Go.Proofs Go.Proofs.YtjcmalmcijpnnaaDoor

theorem KeptBut.trans {g m : Nat} {w w' w'' : World} (h : KeptBut g m w w') (k : KeptBut g m w' w'') : KeptBut g m w w'' :=
  ⟨k.os.trans h.os, k.tape.trans h.tape, k.output.trans h.output, Nat.le_trans h.size k.size, fun i hi h1 h2 => (k.block i (Nat.lt_of_lt_of_le hi h.size) h1 h2).trans (h.block i hi h1 h2)⟩
theorem KeptBut.refl (g m : Nat) (w : World) : KeptBut g m w w := ⟨rfl, rfl, rfl, Nat.le_refl _, fun _ _ _ _ => rfl⟩
theorem TabsIn.from {base : Nat} {w w' : World} (h : TabsIn w) (h2 : 2 ≤ base) (hb : Below base w w') : TabsIn w' := by
  obtain ⟨t0, t1, f0, f1, h0, h1⟩ := h
  exact ⟨t0, t1, f0, f1, (hb.block 0 (by omega)).trans h0, (hb.block 1 (by omega)).trans h1⟩
theorem BoardAt.from {base gb N : Nat} {nx : Nat → Nat} {w w' : World} (h : BoardAt w gb N nx) (hg : gb < base) (hb : Below base w w') : BoardAt w' gb N nx :=
  ⟨(hb.cell (p := ⟨gb, 0, none⟩) hg).trans h.n, fun i hi => (hb.cell (p := ⟨gb, 1 + i, none⟩) hg).trans (h.next i hi)⟩
theorem WaveAt.slice {base gb g m : Nat} {ve : Value} {es : List Known} {L : List (Nat → Int)} {w : World} (h : WaveAt base gb g m ve es L w) : ∃ o c, ve = .slice o L.length c := by
  rcases h.row.2 with ⟨rfl, h0⟩ | ⟨g, cap, cur, rfl, _⟩
  · exact ⟨none, 0, by rw [h0]⟩
  · exact ⟨_, _, rfl⟩
theorem WaveAt.edge {base gb g m : Nat} {ve : Value} {es : List Known} {L : List (Nat → Int)} {w : World} (h : WaveAt base gb g m ve es L w) : w.cell? ⟨g, 2, none⟩ = some ve ∧ w.cell? ⟨g, 1, none⟩ = some (.map (some m)) ∧ g < w.heap.size := by
  refine ⟨?_, ?_, (Array.getElem?_eq_some_iff.1 h.st).1⟩
  · rw [World.cell?, h.st]; rfl
  · rw [World.cell?, h.st]; rfl

/-- What 'all' leaves behind. -/
def AllTo (base gb g m N : Nat) (qs : List (Nat × Nat)) (s : Nat → Int) (w : World) (e : Ending) (w' : World) : Prop :=
  ∃ (most last : Nat) (es : List Known) (ve : Value), e = .returned (.tuple #[.int .i64 (most : Int), .int .i64 (last : Int)]) ∧ Bfs (Mov qs N) s es.length most last ∧ es.length ≤ 362880 ∧ WaveAt base gb g m ve es [] w' ∧ KeptBut g m w w'

set_option maxRecDepth 100000 in
set_option maxHeartbeats 8000000 in
/-- **'all'.** -/
theorem all_calls (w : World) (hT : TabsIn w) (base gb g m N : Nat) (h2 : 2 ≤ base) (hgb : gb < base) (hbw : base ≤ w.heap.size) (qs : List (Nat × Nat)) (hN : 2 ≤ N ∧ N ≤ 9) (hq : ∀ q ∈ qs, q.1 < q.2 ∧ q.2 < N) (hbd : BoardAt w gb N (nxs qs)) (ve : Value) (s : Nat → Int) (hs : Pos N s) (hw : WaveAt base gb g m ve [⟨s, s, 0⟩] [s] w) :
    CallsIn Fence.wide 0 Tryd.prog 51 #[.pointer (some ⟨g, 0, none⟩)] w (AllTo base gb g m N qs s w) := by
  have hok : WaveOK qs N s 0 [⟨s, s, 0⟩] [s] := ⟨hs, Wave.start _ _, fun k hk => by simp at hk; subst hk; exact ⟨DistE.zero, .inl ⟨rfl, rfl⟩⟩⟩
  have HT := Hid.intro hT
  have HQ := Hid.intro hq
  have HBD := Hid.intro hbd
  have HW := Hid.intro hw
  have HOK := Hid.intro hok
  obtain ⟨oe, ce, hve⟩ := hw.slice
  have hE := hw.edge
  have hgl := hE.2.2
  have hlo := hw.lo
  have d2 : w.cell? ⟨g, 2, none⟩ = some (.slice oe 1 ce) := by rw [hE.1, hve]; rfl
  clear hT hq hbd hw hok hve hE
  refine callsIn_of_wp Tryd.func51 rfl trivial ?_ rfl
  simp only [Tryd.ntmps51, List.size_toArray, List.length_cons, List.length_nil, Nat.reduceAdd, Nat.reduceSub, Array.replicate_succ, Array.replicate_zero, List.push_toArray, List.append_toArray, List.nil_append, List.cons_append]
  gi_wp2
  gi_loopw [2, 3] (fun d la wr => ∃ (D : Nat) (es : List Known) (L : List (Nat → Int)) (ve : Value), d = .int .i64 (D : Int) ∧ la = .int .i64 (L.length : Int) ∧ D < es.length ∧ es.length ≤ 362880 ∧ Hid (L ≠ []) ∧ Hid (WaveAt base gb g m ve es L wr) ∧ Hid (WaveOK qs N s D es L) ∧ Hid (KeptBut g m w wr)) (fun d _ _ => 400000 - (intOf d).toNat)
  case atStart => exact ⟨0, [⟨s, s, 0⟩], [s], ve, rfl, rfl, by simp, by simp, Hid.intro (by simp), HW.out, HOK.out, KeptBut.refl _ _ _⟩
  case round =>
    obtain ⟨D, es, L, ve', rfl, rfl, hD, hes, HL, HWr, HOr, HK⟩ := hrel
    have hKB := HK.out.below hbw hlo.1 hlo.2
    have hwr := HK.out.size
    have HGr := Hid.intro (grow_calls wr (HT.out.from h2 hKB) base gb g m N qs hN HQ.out (HBD.out.from hgb hKB) ve' es L HWr.out s D (by omega) HOr.out)
    clear hKB
    gi_wp2_with (gi_at_call 65; refine HGr.out.mono ?_; rintro e w1 ⟨ns, ve1, rfl, hw1, ho1, hk1, _⟩; have HW1 := Hid.intro hw1; have HO1 := Hid.intro ho1; have HK1 := Hid.intro hk1; obtain ⟨o1, c1, rfl⟩ := hw1.slice; have e1 := hw1.edge.1; clear hw1 ho1 hk1; rw [List.length_map] at e1)
    case roundEnd =>
      have hn : 0 < ns.length := by assumption
      have hc := (HO1.out.count hN.2).1
      rw [List.length_append] at hc
      exact ⟨⟨D + 1, es ++ ns, ns.map (·.at_), _, by go_num, by rw [List.length_map], by rw [List.length_append]; omega, by rw [List.length_append]; omega, Hid.intro (fun e => by rw [List.map_eq_nil_iff] at e; subst e; simp at hn), HW1, HO1, Hid.intro (HK.out.trans HK1.out)⟩, by simp [intOf]; omega⟩
    · have hn : ns = [] := List.length_eq_zero_iff.1 (by omega)
      subst hn
      have hO := HO1.out
      have hW1 := HW1.out
      rw [List.append_nil] at hO hW1
      have hb : Bfs (Mov qs N) s es.length D L.length := by
        have := HOr.out.wave.bfs HL.out (Wave.ended hO.wave)
        rw [List.length_map] at this
        exact this
      refine bodyPost_ret (v := .tuple #[.int .i64 (D : Int), .int .i64 (L.length : Int)]) (by simp [results, Tryd.results51, go_sem]) rfl ?_
      exact ⟨D, L.length, es, _, rfl, hb, hes, hW1, HK.out.trans HK1.out⟩
end Go.Eng

namespace Go.Eng
open Go.RowKit Go.Proofs Go.Proofs.YtjcmalmcijpnnaaDoor

theorem len_map88 {w : World} {m : Nat} {en : Array MapEntry} {cl n : Nat} (h : w.heap[m]? = some (.map en cl)) (hn : en.size = n) (ty : TypeId) : (Builtin.len_ #[88] ty #[.map (some m)]).run Tryd.prog w = .ok (.int .i64 (n : Int)) w := by
  subst hn
  simp [Builtin.len_, Sem.run_bind, run_underlying under88, Result.andThen, getObj_go h, goInt]

def upI (k : Nat) : Nat → Int := fun i => if i < k then (i : Int) else 0
theorem upI_id (N : Nat) : upI N = idF N := rfl

/-- What 'Size' answers. -/
def SizedTo (N : Nat) (qs : List (Nat × Nat)) (e : Ending) : Prop := ∃ cnt most last, Bfs (Mov qs N) (idF N) cnt most last ∧ e = .returned (.tuple #[.int .i64 (((cnt / N : Nat) : Nat) : Int), .int .i64 0])

set_option maxRecDepth 100000 in
set_option maxHeartbeats 8000000 in
/-- **'Size' of the program.** -/
theorem size_calls (w : World) (hT : TabsIn w) (N : Nat) (hN : 2 ≤ N ∧ N ≤ 9) (v : Value) (ps : List (Int × Int)) (hv : PairsAt w v ps) (hl : ps.length ≤ 1000) (hb : IsBoard N ps) :
    CallsIn Fence.wide 0 Tryd.prog 18 #[.int .i64 (N : Int), v] w fun e w' => SizedTo N (nats ps) e ∧ Below w.heap.size w w' := by
  have HQ := Hid.intro (nats_mem hb.1)
  have HO : Hid (CallsIn Fence.wide 0 Tryd.prog 49 #[.int .i64 (N : Int), v] w fun e w' => (∃ g, e = .returned (.tuple #[.pointer (some ⟨g, 0, none⟩), .int .i64 0]) ∧ w.heap.size ≤ g ∧ ArrAt w' g 10 (boardCell N (nxs (nats ps)))) ∧ Below w.heap.size w w') := by
    refine (open_calls w N v ps hv hl).mono ?_
    rintro e w' ⟨hB, ⟨c, hc, h, rfl⟩ | ⟨h, g, rfl, hg, hA⟩⟩
    · exact absurd (h.unique (.inr (.inr ⟨by omega, by simpa using hb, rfl⟩))) hc
    · exact ⟨⟨g, rfl, hg, by simpa using hA⟩, hB⟩
  have HT := Hid.intro hT
  have h2 := hT.lt
  clear hT hv hl hb
  refine callsIn_of_wp Tryd.func18 rfl trivial ?_ rfl
  simp only [Tryd.ntmps18, List.size_toArray, List.length_cons, List.length_nil, Nat.reduceAdd, Nat.reduceSub, Array.replicate_succ, Array.replicate_zero, List.push_toArray, List.append_toArray, List.nil_append, List.cons_append]
  gi_wp2_with (gi_at_call 49; refine HO.out.mono ?_; rintro e w1 ⟨⟨gb, rfl, hgw, hA⟩, hB⟩; have HB := Hid.intro hB; have HA := Hid.intro hA; clear hB hA)
  have hgl1 : gb < w1.heap.size := HA.out.lt (by omega)
  obtain ⟨W1, hW1⟩ : ∃ W1, W1 = w1.alloc (.cells zero9 83) := ⟨_, rfl⟩
  have HB1 : Hid (Below w1.heap.size w1 W1) := by rw [hW1]; exact (Below.refl _ w1).alloc (Nat.le_refl _) _
  have HR1 : Hid (ArrAt W1 w1.heap.size 9 (i8Cell (upI 0))) := by
    rw [hW1, zero83]
    exact ArrAt.new _ _ _ fun i hi => by rw [pos9_at _ hi]; unfold i8Cell upI; rfl
  unfold zero9 at hW1
  rw [← hW1]
  clear hW1
  gi_loopw [21] (fun i wr => ∃ k : Nat, k ≤ N ∧ i = .int .i64 (k : Int) ∧ Hid (Below w1.heap.size w1 wr) ∧ Hid (ArrAt wr w1.heap.size 9 (i8Cell (upI k)))) (fun i _ => N - (intOf i).toNat)
  case atStart => exact ⟨0, by omega, rfl, HB1.out, HR1.out⟩
  case round =>
    obtain ⟨k, hk, rfl, HBr, HR⟩ := hrel
    clear HB1 HR1
    by_cases hlt : k < N
    · have HN : Hid (∀ j, upI (k + 1) j = if j = k then (k : Int) else upI k j) := by
        intro j
        unfold upI
        by_cases e : j = k
        · subst e
          rw [if_pos rfl, if_pos (by omega)]
        · rw [if_neg e]
          by_cases e2 : j < k
          · rw [if_pos e2, if_pos (by omega)]
          · rw [if_neg e2, if_neg (by omega)]
      have hw8 := i8_in (x := (k : Int)) (by omega) (by omega)
      have c0 := (HR.out k (by omega)).1
      have c1 := (HR.out k (by omega)).2
      gi_wp2
      refine ⟨⟨k + 1, by omega, by go_num, HBr.out.setCell (p := ⟨w1.heap.size, k, none⟩) (Nat.le_refl _) _, ?_⟩, by simp [intOf]; omega⟩
      refine ArrAt.congr (HR.out.set (i := k) (by omega) (.int .i8 (k : Int))) fun j _ => ?_
      unfold i8Cell
      rw [HN.out j]
      split <;> rfl
    · have hkN : N = k := by omega
      subst hkN
      have c0 : wr.cell? ⟨w1.heap.size, 0, none⟩ = some (.int .i8 (upI N 0)) := (HR.out 0 (by omega)).1
      have c1 : wr.cell? ⟨w1.heap.size, 1, none⟩ = some (.int .i8 (upI N 1)) := (HR.out 1 (by omega)).1
      have c2 : wr.cell? ⟨w1.heap.size, 2, none⟩ = some (.int .i8 (upI N 2)) := (HR.out 2 (by omega)).1
      have c3 : wr.cell? ⟨w1.heap.size, 3, none⟩ = some (.int .i8 (upI N 3)) := (HR.out 3 (by omega)).1
      have c4 : wr.cell? ⟨w1.heap.size, 4, none⟩ = some (.int .i8 (upI N 4)) := (HR.out 4 (by omega)).1
      have c5 : wr.cell? ⟨w1.heap.size, 5, none⟩ = some (.int .i8 (upI N 5)) := (HR.out 5 (by omega)).1
      have c6 : wr.cell? ⟨w1.heap.size, 6, none⟩ = some (.int .i8 (upI N 6)) := (HR.out 6 (by omega)).1
      have c7 : wr.cell? ⟨w1.heap.size, 7, none⟩ = some (.int .i8 (upI N 7)) := (HR.out 7 (by omega)).1
      have c8 : wr.cell? ⟨w1.heap.size, 8, none⟩ = some (.int .i8 (upI N 8)) := (HR.out 8 (by omega)).1
      have hs1 := HBr.out.size
      have hws := HB.out.size
      have hwr2 : 2 ≤ wr.heap.size := by omega
      have hgr : gb < wr.heap.size := by omega
      have HBW : Hid (Below w.heap.size w wr) := HB.out.trans (HBr.out.mono hws)
      have HBD : Hid (BoardAt wr gb N (nxs (nats ps))) := by
        have hA := HA.out.below hgl1 HBr.out
        exact ⟨(hA 0 (by omega)).1, fun i hi => by rw [(hA (1 + i) (by omega)).1]; unfold boardCell; rw [if_neg (by omega), Nat.add_sub_cancel_left]⟩
      have HNW := Hid.intro (newWave_calls wr gb (upI N))
      unfold pos9 at HNW
      have HAll : Hid (∀ w2 g m ve, WaveAt wr.heap.size gb g m ve [⟨upI N, upI N, 0⟩] [upI N] w2 → Below wr.heap.size wr w2 → CallsIn Fence.wide 0 Tryd.prog 51 #[.pointer (some ⟨g, 0, none⟩)] w2 (AllTo wr.heap.size gb g m N (nats ps) (upI N) w2)) := fun w2 g m ve hw hb =>
        all_calls w2 ((HT.out.below HBW.out).below hb) wr.heap.size gb g m N hwr2 hgr hb.size (nats ps) hN HQ.out (HBD.out.from hgr hb) ve (upI N) (idF_pos N) hw
      gi_wp2_with (first
        | (gi_at_call 50; refine HNW.out.mono ?_; rintro e w2 ⟨g, m, ve, rfl, hw2, hb2⟩; have HW2 := Hid.intro hw2; have HB2 := Hid.intro hb2; clear hw2 hb2)
        | (gi_at_call 51; refine (HAll.out _ _ _ _ HW2.out HB2.out).mono ?_; rintro e w3 ⟨most, last, es, ve3, rfl, hbf, hle, hw3, hk3⟩; have HBF := Hid.intro hbf; have HK3 := Hid.intro hk3; have e1 := hw3.edge.2.1; obtain ⟨en, cl, hm3, hsz⟩ := hw3.map.size; have hlen := len_map88 hm3 hsz; have hlo := hw3.lo; clear hbf hk3 hw3))
      have hd : wrap64 ((es.length : Int) / (N : Int)) = ((es.length / N : Nat) : Int) := by
        have h1 := Nat.div_le_self es.length N
        rw [← Int.natCast_ediv]
        obtain ⟨d, hd⟩ : ∃ d, es.length / N = d := ⟨_, rfl⟩
        rw [hd] at h1 ⊢
        unfold wrap64
        omega
      refine bodyPost_ret (v := .tuple #[.int .i64 (wrap64 ((es.length : Int) / (N : Int))), .int .i64 0]) (by simp [results, Tryd.results18, go_sem]) rfl ?_
      rw [hd]
      exact ⟨⟨es.length, most, last, HBF.out, rfl⟩, HBW.out.trans ((HB2.out.trans (HK3.out.below HB2.out.size hlo.1 hlo.2)).mono HBW.out.size)⟩
end Go.Eng
