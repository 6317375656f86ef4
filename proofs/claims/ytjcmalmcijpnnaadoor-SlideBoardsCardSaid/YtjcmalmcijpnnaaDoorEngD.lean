/-
  Stores into a block and new versions of a block: what they do to the relation between the abstract heap and the world.
  Conditions: none; lemmas for the soundness proof.
-/
import Derived.Test.YtjcmalmcijpnnaaDoorEngC
import Derived.Laws.CopyRow
namespace Go.Eng
open Go.RowKit

theorem take_put (A ys : List Value) (o L : Nat) (h : o + ys.length ≤ L) (hL : L ≤ A.length) :
    (A.take L).take o ++ ys ++ (A.take L).drop (o + ys.length) = (A.take o ++ ys ++ A.drop (o + ys.length)).take L := by
  rw [List.take_take, Nat.min_eq_left (by omega), List.take_append, List.take_append, List.take_take, Nat.min_eq_right (by omega), List.length_take, Nat.min_eq_left (by omega),
    List.take_of_length_le (l := ys) (by omega), List.length_append, List.length_take, Nat.min_eq_left (by omega), List.drop_take]

theorem heap_setRow_same {w : World} {b : Nat} {arr cs : Array Value} {te : TypeId} {fz : Nat × Nat} (h : w.heap[b]? = some (.cells arr te fz)) : (w.setRow b cs).heap[b]? = some (.cells cs te fz) := by
  simp [World.setRow, Array.getElem?_modify, h]
theorem heap_setRow_other {w : World} {b c : Nat} {cs : Array Value} (h : c ≠ b) : (w.setRow b cs).heap[c]? = w.heap[c]? := by
  simp [World.setRow, Array.getElem?_modify, Ne.symm h]
theorem size_setRow (w : World) (b : Nat) (cs : Array Value) : (w.setRow b cs).heap.size = w.heap.size := by simp [World.setRow]
theorem below_setRow {B : Nat} {w0 w : World} (h : Below B w0 w) {b : Nat} (hb : B ≤ b) (cs : Array Value) : Below B w0 (w.setRow b cs) :=
  h.trans ⟨rfl, rfl, rfl, by rw [size_setRow]; exact Nat.le_refl _, fun k hk => heap_setRow_other (by omega)⟩

section
variable {P : Program} {B : Nat} {w0 : World} {G : List Nat} {μ : Mu} {H : AH} {w : World}

def AH.stored (H : AH) (i fam ver : Nat) (e : TypeId) (cs : AV) : AH :=
  { next := H.next, objs := Tr.set deep H.objs i (some (.cells fam ver e cs)), fams := Tr.set deep H.fams fam (some (i, ver)) }

theorem storeCells_some {β : Type} {i o : Nat} {xs : AV} {k : AH → Option β} {r : β} (h : H.storeCells i o xs k = some r) :
    ∃ fam ver e cs lw cs', H.objs.get i = some (.cells fam ver e cs) ∧ H.fams.get fam = some (i, lw) ∧ lw ≤ ver ∧ xs.allOne = true ∧ cs.put o xs = some cs' ∧ k (H.stored i fam ver e cs') = some r := by
  unfold AH.storeCells at h
  split at h
  · rename_i fam ver e cs ho
    split at h
    · rename_i tip lw hf
      cases hc : (Nat.beq tip i && Nat.ble lw ver && xs.allOne) with
      | false => rw [hc] at h; simp at h
      | true =>
        rw [hc] at h
        simp only [Bool.and_eq_true] at hc
        obtain ⟨⟨h1, h2⟩, h3⟩ := hc
        simp only [cond_true] at h
        split at h
        · rename_i cs' hp
          simp only [AV.force_eq, Tr.setK_eq] at h
          have := (beq_iff _ _).1 h1
          subst this
          exact ⟨fam, ver, e, cs, lw, cs', ho, hf, Nat.le_of_ble_eq_true h2, h3, hp, h⟩
        · simp at h
    · simp at h
  · simp at h

theorem put_len {cs : AV} : ∀ {o : Nat} {xs cs' : AV}, cs.put o xs = some cs' → cs'.len = cs.len := by
  induction cs with
  | cons a t _ ih =>
    intro o xs cs' h
    cases o with
    | zero =>
      cases xs with
      | cons x r => simp only [AV.put, Option.map_eq_some_iff] at h; obtain ⟨q, h1, rfl⟩ := h; simp [AV.len, ih h1]
      | _ => simp [AV.put] at h; subst h; rfl
    | succ n => simp only [AV.put, Option.map_eq_some_iff] at h; obtain ⟨q, h1, rfl⟩ := h; simp [AV.len, ih h1]
  | _ => intro o xs cs' h; cases o <;> cases xs <;> simp [AV.put] at h <;> subst h <;> rfl

/-- What another cell block is to a block that is written: another block of the model's. -/
theorem Rep.store (h : Rep P B w0 G μ H w) {i fam ver o lw b N : Nat} {e : TypeId} {cs xs cs' : AV} {ys : List Value} (ho : H.objs.get i = some (.cells fam ver e cs)) (hf : H.fams.get fam = some (i, lw)) (hl : lw ≤ ver)
    (hm : μ i = some (b, N)) (hx : LR μ xs ys) (hp : cs.put o xs = some cs') :
    ∃ arr te, w.heap[b]? = some (.cells arr te (0, 0)) ∧ o + ys.length ≤ arr.size ∧
      Rep P B w0 G μ (H.stored i fam ver e cs') (w.setRow b (arr.toList.take o ++ ys ++ arr.toList.drop (o + ys.length)).toArray) := by
  obtain ⟨arr, te, fz, hw, hN, hcN, hLR, hfz⟩ := h.cells _ _ _ _ _ _ _ _ _ ho hf hl hm
  have hB := h.write _ _ _ _ _ _ _ _ ho hf hm
  rw [hfz hB] at hw
  obtain ⟨hfit, hnew⟩ := LR.put hLR hx hp
  have hlen : (arr.toList.take cs.len).length = cs.len := hLR.len
  rw [hlen] at hfit
  have hAl : arr.toList.length = N := by simpa using hN
  refine ⟨arr, te, hw, by omega, ?_⟩
  rw [take_put _ _ _ _ hfit (by omega)] at hnew
  have hl' := put_len hp
  have get : ∀ {j o'}, (H.stored i fam ver e cs').objs.get j = some o' → (j = i ∧ o' = .cells fam ver e cs') ∨ (j ≠ i ∧ H.objs.get j = some o') := by
    intro j o' q
    rcases Tr.get_set deep H.objs i (some (.cells fam ver e cs')) j o' q with ⟨h1, h2⟩ | h2
    · exact .inl ⟨h1, by simpa using h2.symm⟩
    · exact .inr h2
  have clsOld : ∀ {j o'}, (H.stored i fam ver e cs').objs.get j = some o' → ∃ o'', H.objs.get j = some o'' ∧ o''.cls j = o'.cls j := by
    intro j o' q
    rcases get q with ⟨rfl, rfl⟩ | ⟨_, h2⟩
    · exact ⟨_, ho, rfl⟩
    · exact ⟨_, h2, rfl⟩
  have verOld : ∀ {j f v e' c}, (H.stored i fam ver e cs').objs.get j = some (.cells f v e' c) → ∃ c', H.objs.get j = some (.cells f v e' c') ∧ c'.len = c.len := by
    intro j f v e' c q
    rcases get q with ⟨rfl, h1⟩ | ⟨_, h2⟩
    · cases h1; exact ⟨_, ho, hl'.symm⟩
    · exact ⟨_, h2, rfl⟩
  have getF : ∀ {f t l}, (H.stored i fam ver e cs').fams.get f = some (t, l) → (f = fam ∧ t = i ∧ l = ver) ∨ (f ≠ fam ∧ H.fams.get f = some (t, l)) := by
    intro f t l q
    rcases Tr.get_set deep H.fams fam (some (i, ver)) f (t, l) q with ⟨h1, h2⟩ | h2
    · cases h2; exact .inl ⟨h1, rfl, rfl⟩
    · exact .inr h2
  have only : ∀ {j v e' c}, (H.stored i fam ver e cs').objs.get j = some (.cells fam v e' c) → ver ≤ v → j = i := by
    intro j v e' c q hv
    obtain ⟨c', h1, _⟩ := verOld q
    refine Decidable.byContradiction fun hne => ?_
    have := h.vtop _ _ _ _ _ _ _ _ _ _ h1 ho hf hne
    omega
  refine ⟨below_setRow h.below hB _, h.base, ?gdom, h.glob, ?gown, ?gsep, ?gvtop, ?gtip, ?gwrite, ?gcells, ?gmap, ?gloop, ?gdefd⟩
  case gdom => intro j c M q; have := h.dom _ _ _ q; exact ⟨this.1, by rw [size_setRow]; exact this.2⟩
  case gown =>
    intro j o' q
    obtain ⟨o'', h1, h2⟩ := clsOld q
    have := h.own _ _ h1
    exact ⟨this.1, h2 ▸ this.2⟩
  case gsep =>
    intro j k o1 o2 c M1 M2 e1 e2 m1 m2
    obtain ⟨p1, h1, h2⟩ := clsOld e1
    obtain ⟨p2, h3, h4⟩ := clsOld e2
    rw [← h2, ← h4]
    exact h.sep _ _ _ _ _ _ _ h1 h3 m1 m2
  case gvtop =>
    intro a c f va ea ca vc ec cc l e1 e2 e3 hne
    obtain ⟨_, h1, _⟩ := verOld e1
    obtain ⟨_, h2, _⟩ := verOld e2
    rcases getF e3 with ⟨rfl, rfl, rfl⟩ | ⟨_, h3⟩
    · exact h.vtop _ _ _ _ _ _ _ _ _ _ h1 h2 hf hne
    · exact h.vtop _ _ _ _ _ _ _ _ _ _ h1 h2 h3 hne
  case gtip =>
    intro a c f va ea ca vc ec cc l b' N' M' e1 e2 e3 h4 m1 m2
    obtain ⟨c1, h1, l1⟩ := verOld e1
    obtain ⟨c2, h2, l2⟩ := verOld e2
    rcases getF e3 with ⟨rfl, rfl, rfl⟩ | ⟨_, h3⟩
    · have := only e1 h4; subst this; rw [e1] at e2; cases e2; exact Nat.le_refl _
    · have := h.tip _ _ _ _ _ _ _ _ _ _ _ _ _ h1 h2 h3 h4 m1 m2; omega
  case gwrite =>
    intro a f v e' c l b' N' e1 e2 m1
    obtain ⟨c1, h1, l1⟩ := verOld e1
    rcases getF e2 with ⟨rfl, rfl, rfl⟩ | ⟨_, h3⟩
    · rw [hm] at m1; cases m1; exact hB
    · exact h.write _ _ _ _ _ _ _ _ h1 h3 m1
  case gcells =>
    intro a f v e' c t l b' N' e1 e2 e3 m1
    rcases get e1 with ⟨rfl, h1⟩ | ⟨hne, h1⟩
    · cases h1
      rw [hm] at m1; cases m1
      refine ⟨_, te, (0, 0), heap_setRow_same hw, ?_, by omega, ?_, fun _ => rfl⟩
      · simp; omega
      · simpa [hl'] using hnew
    · rcases getF e2 with ⟨rfl, rfl, rfl⟩ | ⟨hf', h3⟩
      · exact absurd (only e1 e3) hne
      · obtain ⟨arr', te', fz', k1, k2⟩ := h.cells _ _ _ _ _ _ _ _ _ h1 h3 e3 m1
        have hbb : b' ≠ b := by
          intro q; subst q
          exact hf' (h.sep _ _ _ _ _ _ _ h1 ho m1 hm)
        exact ⟨arr', te', fz', by rw [heap_setRow_other hbb]; exact k1, k2⟩
  case gmap =>
    intro a kt es b' N' e1 m1
    rcases get e1 with ⟨rfl, h1⟩ | ⟨hne, h1⟩
    · cases h1
    · obtain ⟨k1, en, cl, k2, k3⟩ := h.map _ _ _ _ _ h1 m1
      have hbb : b' ≠ b := by intro q; subst q; rw [hw] at k2; cases k2
      exact ⟨k1, en, cl, by rw [heap_setRow_other hbb]; exact k2, k3⟩
  case gloop =>
    intro a st pend fn nt T ps as bd dd b' N' e1 m1
    rcases get e1 with ⟨rfl, h1⟩ | ⟨hne, h1⟩
    · cases h1
    · obtain ⟨k1, L, d, M, k2, k3⟩ := h.loop _ _ _ _ _ _ _ _ _ _ _ _ h1 m1
      have hbb : b' ≠ b := by intro q; subst q; rw [hw] at k2; cases k2
      exact ⟨k1, L, d, M, by rw [heap_setRow_other hbb]; exact k2, k3⟩
  case gdefd =>
    intro a op b' N' e1 m1
    rcases get e1 with ⟨rfl, h1⟩ | ⟨hne, h1⟩
    · cases h1
    · obtain ⟨k1, k2⟩ := h.defd _ _ _ _ h1 m1
      have hbb : b' ≠ b := by intro q; subst q; rw [hw] at k2; cases k2
      exact ⟨k1, by rw [heap_setRow_other hbb]; exact k2⟩

/-! ### A new version -/
def AH.versioned (H : AH) (fam ver lw : Nat) (e : TypeId) (cs : AV) : AH :=
  { next := H.next + 1, objs := Tr.set deep H.objs H.next (some (.cells fam (ver + 1) e cs)), fams := Tr.set deep H.fams fam (some (H.next, lw)) }

theorem version_some {β : Type} {i : Nat} {xs : AV} {k : Nat → AH → Option β} {r : β} (h : H.version i xs k = some r) :
    ∃ fam ver e cs lw, H.objs.get i = some (.cells fam ver e cs) ∧ H.fams.get fam = some (i, lw) ∧ lw ≤ ver ∧ xs.allOne = true ∧ k H.next (H.versioned fam ver lw e (cs.app xs)) = some r := by
  unfold AH.version at h
  split at h
  · rename_i fam ver e cs ho
    split at h
    · rename_i tip lw hf
      cases hc : (Nat.beq tip i && Nat.ble lw ver && xs.allOne) with
      | false => rw [hc] at h; simp at h
      | true =>
        rw [hc] at h
        simp only [Bool.and_eq_true] at hc
        obtain ⟨⟨h1, h2⟩, h3⟩ := hc
        simp only [cond_true, AV.force_eq, Tr.setK_eq, fN_eq] at h
        have := (beq_iff _ _).1 h1
        subst this
        exact ⟨fam, ver, e, cs, lw, ho, hf, Nat.le_of_ble_eq_true h2, h3, h⟩
    · simp at h
  · simp at h

/-- The abstract heap alone has a new version. -/
theorem Rep.layVersion (h : Rep P B w0 G μ H w) {i fam ver lw : Nat} {e : TypeId} {cs : AV} (ho : H.objs.get i = some (.cells fam ver e cs)) (hf : H.fams.get fam = some (i, lw)) (cs' : AV) :
    Rep P B w0 G μ (H.versioned fam ver lw e cs') w := by
  have hun := h.notYet (i := H.next) (Nat.le_refl _)
  have get : ∀ {j o'}, (H.versioned fam ver lw e cs').objs.get j = some o' → (j = H.next ∧ o' = .cells fam (ver + 1) e cs') ∨ (j < H.next ∧ H.objs.get j = some o') := by
    intro j o' q
    rcases Tr.get_set deep H.objs H.next (some (.cells fam (ver + 1) e cs')) j o' q with ⟨h1, h2⟩ | ⟨_, h2⟩
    · exact .inl ⟨h1, by simpa using h2.symm⟩
    · exact .inr ⟨(h.own _ _ h2).1, h2⟩
  have old : ∀ {j o b N}, (H.versioned fam ver lw e cs').objs.get j = some o → μ j = some (b, N) → H.objs.get j = some o := by
    intro j o b N q hm
    rcases get q with ⟨rfl, _⟩ | ⟨_, q⟩
    · rw [hun] at hm; cases hm
    · exact q
  have getF : ∀ {f t l}, (H.versioned fam ver lw e cs').fams.get f = some (t, l) → (f = fam ∧ t = H.next ∧ l = lw) ∨ (f ≠ fam ∧ H.fams.get f = some (t, l)) := by
    intro f t l q
    rcases Tr.get_set deep H.fams fam (some (H.next, lw)) f (t, l) q with ⟨h1, h2⟩ | h2
    · cases h2; exact .inl ⟨h1, rfl, rfl⟩
    · exact .inr h2
  refine ⟨h.below, h.base, ?gdom, h.glob, ?gown, ?gsep, ?gvtop, ?gtip, ?gwrite, ?gcells, ?gmap, ?gloop, ?gdefd⟩
  case gdom => intro j b N q; have := h.dom _ _ _ q; exact ⟨Nat.lt_succ_of_lt this.1, this.2⟩
  case gown =>
    intro j o q
    rcases get q with ⟨rfl, rfl⟩ | ⟨_, q⟩
    · exact ⟨Nat.lt_succ_self _, Nat.lt_succ_of_lt (h.own _ _ ho).2⟩
    · have := h.own _ _ q; exact ⟨Nat.lt_succ_of_lt this.1, Nat.lt_succ_of_lt this.2⟩
  case gsep => exact fun i j oi oj b N M h1 h2 h3 h4 => h.sep i j oi oj b N M (old h1 h3) (old h2 h4) h3 h4
  case gvtop =>
    intro a c f va ea ca vc ec cc l e1 e2 e3 hne
    rcases getF e3 with ⟨rfl, rfl, rfl⟩ | ⟨hfne, h3⟩
    · rcases get e2 with ⟨_, h2⟩ | ⟨hlt, _⟩
      · cases h2
        rcases get e1 with ⟨h1, _⟩ | ⟨_, h1⟩
        · exact absurd h1 hne
        · by_cases hai : a = i
          · subst hai; rw [ho] at h1; cases h1; omega
          · have := h.vtop _ _ _ _ _ _ _ _ _ _ h1 ho hf hai; omega
      · omega
    · have hc : c < H.next ∧ H.objs.get c = some (.cells f vc ec cc) := by
        rcases get e2 with ⟨_, h2⟩ | h2
        · cases h2; exact absurd rfl hfne
        · exact h2
      have ha : H.objs.get a = some (.cells f va ea ca) := by
        rcases get e1 with ⟨_, h2⟩ | h2
        · cases h2; exact absurd rfl hfne
        · exact h2.2
      exact h.vtop _ _ _ _ _ _ _ _ _ _ ha hc.2 h3 hne
  case gtip =>
    intro a c f va ea ca vc ec cc l b N M e1 e2 e3 h4 m1 m2
    rcases getF e3 with ⟨_, rfl, _⟩ | ⟨hfne, h3⟩
    · rw [hun] at m2; cases m2
    · exact h.tip _ _ _ _ _ _ _ _ _ _ _ _ _ (old e1 m1) (old e2 m2) h3 h4 m1 m2
  case gwrite =>
    intro a f v e' c l b N e1 e2 m1
    rcases getF e2 with ⟨_, rfl, _⟩ | ⟨hfne, h3⟩
    · rw [hun] at m1; cases m1
    · exact h.write _ _ _ _ _ _ _ _ (old e1 m1) h3 m1
  case gcells =>
    intro a f v e' c t l b N e1 e2 e3 m1
    rcases getF e2 with ⟨rfl, _, rfl⟩ | ⟨hfne, h3⟩
    · exact h.cells _ _ _ _ _ _ _ _ _ (old e1 m1) hf e3 m1
    · exact h.cells _ _ _ _ _ _ _ _ _ (old e1 m1) h3 e3 m1
  case gmap => exact fun a kt es b N h1 h2 => h.map _ _ _ _ _ (old h1 h2) h2
  case gloop => exact fun a st pend fn nt T ps as bd dd b N h1 h2 => h.loop _ _ _ _ _ _ _ _ _ _ _ _ (old h1 h2) h2
  case gdefd => exact fun a op b N h1 h2 => h.defd _ _ _ _ (old h1 h2) h2

/-- The new version lies where the elder one lies: the cells behind it are written. -/
theorem Rep.versionHere (h : Rep P B w0 G μ H w) {i fam ver lw b N : Nat} {e : TypeId} {cs xs : AV} {ys : List Value} (ho : H.objs.get i = some (.cells fam ver e cs)) (hf : H.fams.get fam = some (i, lw)) (hl : lw ≤ ver)
    (hm : μ i = some (b, N)) (hx : LR μ xs ys) (hroom : cs.len + ys.length ≤ N) :
    ∃ arr te, w.heap[b]? = some (.cells arr te (0, 0)) ∧ arr.size = N ∧
      Rep P B w0 G (μ.add H.next b N) (H.versioned fam ver lw e (cs.app xs)) (w.setRow b (arr.toList.take cs.len ++ ys ++ arr.toList.drop (cs.len + ys.length)).toArray) := by
  obtain ⟨arr, te, fz, hw, hN, hcN, hLR, hfz⟩ := h.cells _ _ _ _ _ _ _ _ _ ho hf hl hm
  have hB := h.write _ _ _ _ _ _ _ _ ho hf hm
  rw [hfz hB] at hw
  have hAl : arr.toList.length = N := by simpa using hN
  refine ⟨arr, te, hw, hN, ?_⟩
  have hun := h.notYet (i := H.next) (Nat.le_refl _)
  have hle : μ.le (μ.add H.next b N) := Mu.le_add hun
  have hv := h.layVersion ho hf (cs.app xs)
  have htl := Tr.get_set deep H.fams fam (some (H.next, lw))
  have hnew : LR μ (cs.app xs) (((arr.toList.take cs.len ++ ys ++ arr.toList.drop (cs.len + ys.length)).toArray).toList.take (cs.app xs).len) := by
    rw [len_app hLR.isList, ← hx.len]
    have : ((arr.toList.take cs.len ++ ys ++ arr.toList.drop (cs.len + ys.length)).toArray).toList.take (cs.len + ys.length) = arr.toList.take cs.len ++ ys := by
      simp only
      rw [List.take_append_of_le_length (by simp; omega), List.take_of_length_le (by simp; omega)]
    rw [this]
    exact LR.app hx hLR
  have get : ∀ {j o'}, (H.versioned fam ver lw e (cs.app xs)).objs.get j = some o' → (j = H.next ∧ o' = .cells fam (ver + 1) e (cs.app xs)) ∨ (j < H.next ∧ H.objs.get j = some o') := by
    intro j o' q
    rcases Tr.get_set deep H.objs H.next (some (.cells fam (ver + 1) e (cs.app xs))) j o' q with ⟨h1, h2⟩ | ⟨_, h2⟩
    · exact .inl ⟨h1, by simpa using h2.symm⟩
    · exact .inr ⟨(h.own _ _ h2).1, h2⟩
  have getF : ∀ {f t l}, (H.versioned fam ver lw e (cs.app xs)).fams.get f = some (t, l) → (f = fam ∧ t = H.next ∧ l = lw) ∨ (f ≠ fam ∧ H.fams.get f = some (t, l)) := by
    intro f t l q
    rcases htl f (t, l) q with ⟨h1, h2⟩ | h2
    · cases h2; exact .inl ⟨h1, rfl, rfl⟩
    · exact .inr h2
  have split : ∀ {j o' b' M}, (H.versioned fam ver lw e (cs.app xs)).objs.get j = some o' → μ.add H.next b N j = some (b', M) →
      (j = H.next ∧ o' = .cells fam (ver + 1) e (cs.app xs) ∧ b' = b ∧ M = N) ∨ (j < H.next ∧ H.objs.get j = some o' ∧ μ j = some (b', M)) := by
    intro j o' b' M q m
    rcases get q with ⟨rfl, rfl⟩ | ⟨hlt, q⟩
    · rcases Mu.add_cases m with ⟨_, m⟩ | ⟨hne, _⟩
      · cases m; exact .inl ⟨rfl, rfl, rfl, rfl⟩
      · exact absurd rfl hne
    · rcases Mu.add_cases m with ⟨rfl, _⟩ | ⟨_, m⟩
      · omega
      · exact .inr ⟨hlt, q, m⟩
  refine ⟨below_setRow h.below hB _, h.base, ?gdom, ?gglob, hv.own, ?gsep, hv.vtop, ?gtip, ?gwrite, ?gcells, ?gmap, ?gloop, ?gdefd⟩
  case gdom =>
    intro j c M q
    rw [size_setRow]
    rcases Mu.add_cases q with ⟨rfl, q'⟩ | ⟨_, q'⟩
    · cases q'; exact ⟨Nat.lt_succ_self _, (h.dom _ _ _ hm).2⟩
    · have := h.dom _ _ _ q'; exact ⟨Nat.lt_succ_of_lt this.1, this.2⟩
  case gglob => intro g hg; obtain ⟨M, q⟩ := h.glob g hg; exact ⟨M, hle _ _ q⟩
  case gsep =>
    intro a c oa oc b' M M' e1 e2 m1 m2
    rcases split e1 m1 with ⟨rfl, rfl, rfl, rfl⟩ | ⟨_, h1, k1⟩ <;> rcases split e2 m2 with ⟨rfl, rfl, q3, q4⟩ | ⟨_, h2, k2⟩
    · rfl
    · have q := h.sep _ _ _ _ _ _ _ ho h2 hm k2; exact q
    · subst q3; have q := h.sep _ _ _ _ _ _ _ h1 ho k1 hm; exact q
    · exact h.sep _ _ _ _ _ _ _ h1 h2 k1 k2
  case gtip =>
    intro a c f va ea ca vc ec cc l b' M M' e1 e2 e3 h4 m1 m2
    rcases getF e3 with ⟨rfl, rfl, rfl⟩ | ⟨hfne, h3⟩
    · rcases split e2 m2 with ⟨_, q2, rfl, rfl⟩ | ⟨hlt, _⟩
      · cases q2
        rcases split e1 m1 with ⟨_, q1, _⟩ | ⟨_, h1, k1⟩
        · cases q1; exact Nat.le_refl _
        · have := h.tip _ _ _ _ _ _ _ _ _ _ _ _ _ h1 ho hf h4 k1 hm
          rw [len_app hLR.isList]; omega
      · omega
    · rcases split e1 m1 with ⟨_, q1, _⟩ | ⟨_, h1, k1⟩
      · cases q1; exact absurd rfl hfne
      · rcases split e2 m2 with ⟨_, q2, _⟩ | ⟨_, h2, k2⟩
        · cases q2; exact absurd rfl hfne
        · exact h.tip _ _ _ _ _ _ _ _ _ _ _ _ _ h1 h2 h3 h4 k1 k2
  case gwrite =>
    intro a f v e' c l b' M e1 e2 m1
    rcases split e1 m1 with ⟨_, _, rfl, _⟩ | ⟨hlt, h1, k1⟩
    · exact hB
    · rcases getF e2 with ⟨_, rfl, _⟩ | ⟨_, h3⟩
      · omega
      · exact h.write _ _ _ _ _ _ _ _ h1 h3 k1
  case gcells =>
    intro a f v e' c t l b' M e1 e2 e3 m1
    rcases split e1 m1 with ⟨rfl, q1, rfl, rfl⟩ | ⟨hlt, h1, k1⟩
    · cases q1
      refine ⟨_, te, (0, 0), heap_setRow_same hw, ?_, ?_, hnew.mono hle, fun _ => rfl⟩
      · simp; omega
      · rw [len_app hLR.isList, ← hx.len]; exact hroom
    · have hlive : ∃ t' , H.fams.get f = some (t', l) := by
        rcases getF e2 with ⟨rfl, _, rfl⟩ | ⟨_, h3⟩
        · exact ⟨_, hf⟩
        · exact ⟨_, h3⟩
      obtain ⟨t', h3⟩ := hlive
      obtain ⟨arr', te', fz', p1, p2, p3, p4, p5⟩ := h.cells _ _ _ _ _ _ _ _ _ h1 h3 e3 k1
      by_cases hbb : b' = b
      · subst hbb
        rw [hw] at p1; cases p1
        have hfam : f = fam := h.sep _ _ _ _ _ _ _ h1 ho k1 hm
        subst hfam
        rw [hf] at h3; cases h3
        have hshort := h.tip _ _ _ _ _ _ _ _ _ _ _ _ _ h1 ho hf e3 k1 hm
        refine ⟨_, te, (0, 0), heap_setRow_same hw, by simp; omega, p3, ?_, fun _ => rfl⟩
        have : ((arr.toList.take cs.len ++ ys ++ arr.toList.drop (cs.len + ys.length)).toArray).toList.take c.len = arr.toList.take c.len := by
          simp only
          rw [List.append_assoc, List.take_append_of_le_length (by simp; omega), List.take_take, Nat.min_eq_left hshort]
        rw [this]
        exact p4.mono hle
      · exact ⟨arr', te', fz', by rw [heap_setRow_other hbb]; exact p1, p2, p3, p4.mono hle, p5⟩
  case gmap =>
    intro a kt es b' M e1 m1
    rcases split e1 m1 with ⟨_, q1, _⟩ | ⟨hlt, h1, k1⟩
    · cases q1
    · obtain ⟨p1, en, cl, p2, p3⟩ := h.map _ _ _ _ _ h1 k1
      have hbb : b' ≠ b := by intro q; subst q; rw [hw] at p2; cases p2
      exact ⟨p1, en, cl, by rw [heap_setRow_other hbb]; exact p2, p3.mono hle⟩
  case gloop =>
    intro a st pend fn nt T ps as bd dd b' M e1 m1
    rcases split e1 m1 with ⟨_, q1, _⟩ | ⟨hlt, h1, k1⟩
    · cases q1
    · obtain ⟨p1, L, d, M', p2, p3, p4, p5, p6, p7, p8, p9, p10⟩ := h.loop _ _ _ _ _ _ _ _ _ _ _ _ h1 k1
      have hbb : b' ≠ b := by intro q; subst q; rw [hw] at p2; cases p2
      exact ⟨p1, L, d, M', by rw [heap_setRow_other hbb]; exact p2, p3, p4, p5.mono hle, p6, p7, p8, hle _ _ p9, p10⟩
  case gdefd =>
    intro a op b' M e1 m1
    rcases split e1 m1 with ⟨_, q1, _⟩ | ⟨hlt, h1, k1⟩
    · cases q1
    · obtain ⟨p1, p2⟩ := h.defd _ _ _ _ h1 k1
      have hbb : b' ≠ b := by intro q; subst q; rw [hw] at p2; cases p2
      exact ⟨p1, by rw [heap_setRow_other hbb]; exact p2⟩

end
end Go.Eng
