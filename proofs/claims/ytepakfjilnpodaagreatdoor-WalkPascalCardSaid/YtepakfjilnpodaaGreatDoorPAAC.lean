/-
  Each quiet operation of the abstract machine gives what the model's operation gives. Stores into a block and new versions of a block: what t
  Conditions: see each statement.
-/
import Derived.Test.YtepakfjilnpodaaGreatDoorPAAB
import Derived.Laws.CopyRow
import Derived.ChangeKeysEq
import Derived.Laws.StructEq
namespace Go.Eng
open Go.RowKit

theorem take_put (A ys : List Value) (o L : Nat) (h : o + ys.length ≤ L) (hL : L ≤ A.length) :
    (A.take L).take o ++ ys ++ (A.take L).drop (o + ys.length) = (A.take o ++ ys ++ A.drop (o + ys.length)).take L := by
  rw [List.take_take, Nat.min_eq_left (by omega), List.take_append, List.take_append, List.take_take, Nat.min_eq_right (by omega), List.length_take, Nat.min_eq_left (by omega),
    List.take_of_length_le (l := ys) (by omega), List.length_append, List.length_take, Nat.min_eq_left (by omega), List.drop_take]

theorem heap_setRow_same {w : World} {b : Nat} {arr cs : Array Value} {te : TypeId} {fz : Nat × Nat} (h : w.heap[b]? = some (.cells arr te fz)) : (w.setRow b cs).heap[b]? = some (.cells cs te fz) := by
  simp [World.setRow, Array.getElem?_modify, h]
theorem heap_setRow_other {w : World} {b c : Nat} {cs : Array Value} (h : c ≠ b) : (w.setRow b cs).heap[c]? = w.heap[c]? := by
  simp [World.setRow, Array.getElem?_modify, Ne.symm h]
theorem size_setRow (w : World) (b : Nat) (cs : Array Value) : (w.setRow b cs).heap.size = w.heap.size := by simp [World.setRow]
theorem below_setRow {B : Nat} {w0 w : World} (h : Below B w0 w) {b : Nat} (hb : B ≤ b) (cs : Array Value) : Below B w0 (w.setRow b cs) :=
  h.trans ⟨rfl, rfl, rfl, by rw [size_setRow]; exact Nat.le_refl _, fun k hk => heap_setRow_other (by omega)⟩

section
variable {P : Program} {B : Nat} {w0 : World} {G : Sett} {μ : Mu} {H : AH} {w : World}

def AH.stored (H : AH) (i fam ver : Nat) (e : TypeId) (cs : AV) : AH :=
  { res := H.res, next := H.next, objs := Tr.set deep H.objs i (some (.cells fam ver e cs)), fams := Tr.set deep H.fams fam (some (i, ver)) }

theorem storeCells_some {β : Type} {i o : Nat} {xs : AV} {k : AH → Option β} {r : β} (h : H.storeCells i o xs k = some r) :
    ∃ fam ver e cs lw cs', H.objs.get i = some (.cells fam ver e cs) ∧ H.fams.get fam = some (i, lw) ∧ lw ≤ ver ∧ xs.allOne = true ∧ cs.put o xs = some cs' ∧ k (H.stored i fam ver e cs') = some r := by
  unfold AH.storeCells at h
  split at h
  · rename_i fam ver e cs ho
    split at h
    · rename_i tip lw hf
      cases hc : (Nat.beq tip i && Nat.ble lw ver && xs.allOne) with
      | false => rw [hc] at h; simp at h
      | true =>
        rw [hc] at h
        simp only [Bool.and_eq_true] at hc
        obtain ⟨⟨h1, h2⟩, h3⟩ := hc
        simp only [cond_true] at h
        split at h
        · rename_i cs' hp
          simp only [AV.force_eq, Tr.setK_eq] at h
          have := (beq_iff _ _).1 h1
          subst this
          exact ⟨fam, ver, e, cs, lw, cs', ho, hf, Nat.le_of_ble_eq_true h2, h3, hp, h⟩
        · simp at h
    · simp at h
  · simp at h

theorem put_len {cs : AV} : ∀ {o : Nat} {xs cs' : AV}, cs.put o xs = some cs' → cs'.len = cs.len := by
  induction cs with
  | cons a t _ ih =>
    intro o xs cs' h
    cases o with
    | zero =>
      cases xs with
      | cons x r => simp only [AV.put, Option.map_eq_some_iff] at h; obtain ⟨q, h1, rfl⟩ := h; simp [AV.len, ih h1]
      | _ => simp [AV.put] at h; subst h; rfl
    | succ n => simp only [AV.put, Option.map_eq_some_iff] at h; obtain ⟨q, h1, rfl⟩ := h; simp [AV.len, ih h1]
  | _ => intro o xs cs' h; cases o <;> cases xs <;> simp [AV.put] at h <;> subst h <;> rfl

/-- What another cell block is to a block that is written: another block of the model's. -/
theorem kept_setRow {res : List TypeId} {b : Nat} {arr : Array Value} {te : TypeId} {fz : Nat × Nat} (hw : w.heap[b]? = some (.cells arr te fz)) (hr : res.contains te = false) (cs : Array Value) : Kept res w (w.setRow b cs) := by
  intro c cs' te' fz' q hq
  by_cases hcb : c = b
  · subst hcb; rw [hw] at q; cases q; rw [hr] at hq; cases hq
  · rw [heap_setRow_other hcb]; exact q
theorem free_setRow (h : Rep P B w0 G μ H w) {b : Nat} {arr : Array Value} {te : TypeId} {fz : Nat × Nat} (hw : w.heap[b]? = some (.cells arr te fz)) (cs : Array Value) : ∀ i b' N, μ i = some (b', N) → B ≤ b' → ∀ (cs' : Array Value) (e : TypeId) (fz' : Nat × Nat), (w.setRow b cs).heap[b']? = some (Obj.cells cs' e fz') → G.res.contains e = false := by
  intro i b' N hm hB cs' e fz' q
  by_cases hcb : b' = b
  · subst hcb; rw [heap_setRow_same hw] at q; cases q; exact h.free _ _ _ hm hB _ _ _ hw
  · rw [heap_setRow_other hcb] at q; exact h.free _ _ _ hm hB _ _ _ q
theorem Rep.store (h : Rep P B w0 G μ H w) {i fam ver o lw b N : Nat} {e : TypeId} {cs xs cs' : AV} {ys : List Value} (ho : H.objs.get i = some (.cells fam ver e cs)) (hf : H.fams.get fam = some (i, lw)) (hl : lw ≤ ver)
    (hm : μ i = some (b, N)) (hx : LR μ xs ys) (hp : cs.put o xs = some cs') :
    ∃ arr te, w.heap[b]? = some (.cells arr te (0, 0)) ∧ o + ys.length ≤ arr.size ∧
      Rep P B w0 G μ (H.stored i fam ver e cs') (w.setRow b (arr.toList.take o ++ ys ++ arr.toList.drop (o + ys.length)).toArray) := by
  obtain ⟨arr, te, fz, hw, hN, hcN, hLR, hfz⟩ := h.cells _ _ _ _ _ _ _ _ _ ho hf hl hm
  have hB := h.write _ _ _ _ _ _ _ _ ho hf hm
  rw [hfz hB] at hw
  obtain ⟨hfit, hnew⟩ := LR.put hLR hx hp
  have hlen : (arr.toList.take cs.len).length = cs.len := hLR.len
  rw [hlen] at hfit
  have hAl : arr.toList.length = N := by simpa using hN
  refine ⟨arr, te, hw, by omega, ?_⟩
  rw [take_put _ _ _ _ hfit (by omega)] at hnew
  have hl' := put_len hp
  have get : ∀ {j o'}, (H.stored i fam ver e cs').objs.get j = some o' → (j = i ∧ o' = .cells fam ver e cs') ∨ (j ≠ i ∧ H.objs.get j = some o') := by
    intro j o' q
    rcases Tr.get_set deep H.objs i (some (.cells fam ver e cs')) j o' q with ⟨h1, h2⟩ | h2
    · exact .inl ⟨h1, by simpa using h2.symm⟩
    · exact .inr h2
  have clsOld : ∀ {j o'}, (H.stored i fam ver e cs').objs.get j = some o' → ∃ o'', H.objs.get j = some o'' ∧ o''.cls j = o'.cls j := by
    intro j o' q
    rcases get q with ⟨rfl, rfl⟩ | ⟨_, h2⟩
    · exact ⟨_, ho, rfl⟩
    · exact ⟨_, h2, rfl⟩
  have verOld : ∀ {j f v e' c}, (H.stored i fam ver e cs').objs.get j = some (.cells f v e' c) → ∃ c', H.objs.get j = some (.cells f v e' c') ∧ c'.len = c.len := by
    intro j f v e' c q
    rcases get q with ⟨rfl, h1⟩ | ⟨_, h2⟩
    · cases h1; exact ⟨_, ho, hl'.symm⟩
    · exact ⟨_, h2, rfl⟩
  have getF : ∀ {f t l}, (H.stored i fam ver e cs').fams.get f = some (t, l) → (f = fam ∧ t = i ∧ l = ver) ∨ (f ≠ fam ∧ H.fams.get f = some (t, l)) := by
    intro f t l q
    rcases Tr.get_set deep H.fams fam (some (i, ver)) f (t, l) q with ⟨h1, h2⟩ | h2
    · cases h2; exact .inl ⟨h1, rfl, rfl⟩
    · exact .inr h2
  have only : ∀ {j v e' c}, (H.stored i fam ver e cs').objs.get j = some (.cells fam v e' c) → ver ≤ v → j = i := by
    intro j v e' c q hv
    obtain ⟨c', h1, _⟩ := verOld q
    refine Decidable.byContradiction fun hne => ?_
    have := h.vtop _ _ _ _ _ _ _ _ _ _ h1 ho hf hne
    omega
  refine ⟨h.resd, h.hdom, ?gfact, ?gfree, below_setRow h.below hB _, h.base, ?gdom, h.glob, ?gown, ?gsep, ?gvtop, ?gtip, ?gwrite, ?gcells, ?gmap, ?gloop, ?gdefd⟩
  case gfact =>
    intro j t q
    rcases get q with ⟨_, q⟩ | ⟨_, q⟩
    · cases q
    · obtain ⟨v, h3, h4⟩ := h.fact _ _ q
      exact ⟨v, h3, G.stable _ _ _ _ (kept_setRow hw (h.free _ _ _ hm hB _ _ _ hw) _) h4⟩
  case gfree => exact free_setRow h hw _
  case gdom => intro j c M q; have := h.dom _ _ _ q; exact ⟨this.1, by rw [size_setRow]; exact this.2⟩
  case gown =>
    intro j o' q
    obtain ⟨o'', h1, h2⟩ := clsOld q
    have := h.own _ _ h1
    exact ⟨this.1, h2 ▸ this.2⟩
  case gsep =>
    intro j k o1 o2 c M1 M2 e1 e2 m1 m2
    obtain ⟨p1, h1, h2⟩ := clsOld e1
    obtain ⟨p2, h3, h4⟩ := clsOld e2
    rw [← h2, ← h4]
    exact h.sep _ _ _ _ _ _ _ h1 h3 m1 m2
  case gvtop =>
    intro a c f va ea ca vc ec cc l e1 e2 e3 hne
    obtain ⟨_, h1, _⟩ := verOld e1
    obtain ⟨_, h2, _⟩ := verOld e2
    rcases getF e3 with ⟨rfl, rfl, rfl⟩ | ⟨_, h3⟩
    · exact h.vtop _ _ _ _ _ _ _ _ _ _ h1 h2 hf hne
    · exact h.vtop _ _ _ _ _ _ _ _ _ _ h1 h2 h3 hne
  case gtip =>
    intro a c f va ea ca vc ec cc l b' N' M' e1 e2 e3 h4 m1 m2
    obtain ⟨c1, h1, l1⟩ := verOld e1
    obtain ⟨c2, h2, l2⟩ := verOld e2
    rcases getF e3 with ⟨rfl, rfl, rfl⟩ | ⟨_, h3⟩
    · have := only e1 h4; subst this; rw [e1] at e2; cases e2; exact Nat.le_refl _
    · have := h.tip _ _ _ _ _ _ _ _ _ _ _ _ _ h1 h2 h3 h4 m1 m2; omega
  case gwrite =>
    intro a f v e' c l b' N' e1 e2 m1
    obtain ⟨c1, h1, l1⟩ := verOld e1
    rcases getF e2 with ⟨rfl, rfl, rfl⟩ | ⟨_, h3⟩
    · rw [hm] at m1; cases m1; exact hB
    · exact h.write _ _ _ _ _ _ _ _ h1 h3 m1
  case gcells =>
    intro a f v e' c t l b' N' e1 e2 e3 m1
    rcases get e1 with ⟨rfl, h1⟩ | ⟨hne, h1⟩
    · cases h1
      rw [hm] at m1; cases m1
      refine ⟨_, te, (0, 0), heap_setRow_same hw, ?_, by omega, ?_, fun _ => rfl⟩
      · simp; omega
      · simpa [hl'] using hnew
    · rcases getF e2 with ⟨rfl, rfl, rfl⟩ | ⟨hf', h3⟩
      · exact absurd (only e1 e3) hne
      · obtain ⟨arr', te', fz', k1, k2⟩ := h.cells _ _ _ _ _ _ _ _ _ h1 h3 e3 m1
        have hbb : b' ≠ b := by
          intro q; subst q
          exact hf' (h.sep _ _ _ _ _ _ _ h1 ho m1 hm)
        exact ⟨arr', te', fz', by rw [heap_setRow_other hbb]; exact k1, k2⟩
  case gmap =>
    intro a kt es b' N' e1 m1
    rcases get e1 with ⟨rfl, h1⟩ | ⟨hne, h1⟩
    · cases h1
    · obtain ⟨k1, en, cl, k2, k3⟩ := h.map _ _ _ _ _ h1 m1
      have hbb : b' ≠ b := by intro q; subst q; rw [hw] at k2; cases k2
      exact ⟨k1, en, cl, by rw [heap_setRow_other hbb]; exact k2, k3⟩
  case gloop =>
    intro a st pend fn nt T ps as bd dd b' N' e1 m1
    rcases get e1 with ⟨rfl, h1⟩ | ⟨hne, h1⟩
    · cases h1
    · obtain ⟨k1, L, d, M, k2, k3⟩ := h.loop _ _ _ _ _ _ _ _ _ _ _ _ h1 m1
      have hbb : b' ≠ b := by intro q; subst q; rw [hw] at k2; cases k2
      exact ⟨k1, L, d, M, by rw [heap_setRow_other hbb]; exact k2, k3⟩
  case gdefd =>
    intro a op b' N' e1 m1
    rcases get e1 with ⟨rfl, h1⟩ | ⟨hne, h1⟩
    · cases h1
    · obtain ⟨k1, k2⟩ := h.defd _ _ _ _ h1 m1
      have hbb : b' ≠ b := by intro q; subst q; rw [hw] at k2; cases k2
      exact ⟨k1, by rw [heap_setRow_other hbb]; exact k2⟩

/-! ### A new version -/
def AH.versioned (H : AH) (fam ver lw : Nat) (e : TypeId) (cs : AV) : AH :=
  { res := H.res, next := H.next + 1, objs := Tr.set deep H.objs H.next (some (.cells fam (ver + 1) e cs)), fams := Tr.set deep H.fams fam (some (H.next, lw)) }

theorem version_some {β : Type} {i : Nat} {xs : AV} {k : Nat → AH → Option β} {r : β} (h : H.version i xs k = some r) :
    ∃ fam ver e cs lw, H.objs.get i = some (.cells fam ver e cs) ∧ H.fams.get fam = some (i, lw) ∧ lw ≤ ver ∧ xs.allOne = true ∧ k H.next (H.versioned fam ver lw e (cs.app xs)) = some r := by
  unfold AH.version at h
  split at h
  · rename_i fam ver e cs ho
    split at h
    · rename_i tip lw hf
      cases hc : (Nat.beq tip i && Nat.ble lw ver && xs.allOne) with
      | false => rw [hc] at h; simp at h
      | true =>
        rw [hc] at h
        simp only [Bool.and_eq_true] at hc
        obtain ⟨⟨h1, h2⟩, h3⟩ := hc
        simp only [cond_true, AV.force_eq, Tr.setK_eq, fN_eq] at h
        have := (beq_iff _ _).1 h1
        subst this
        exact ⟨fam, ver, e, cs, lw, ho, hf, Nat.le_of_ble_eq_true h2, h3, h⟩
    · simp at h
  · simp at h

/-- The abstract heap alone has a new version. -/
theorem Rep.layVersion (h : Rep P B w0 G μ H w) {i fam ver lw : Nat} {e : TypeId} {cs : AV} (ho : H.objs.get i = some (.cells fam ver e cs)) (hf : H.fams.get fam = some (i, lw)) (cs' : AV) :
    Rep P B w0 G μ (H.versioned fam ver lw e cs') w := by
  have hun := h.notYet (i := H.next) (Nat.le_refl _)
  have get : ∀ {j o'}, (H.versioned fam ver lw e cs').objs.get j = some o' → (j = H.next ∧ o' = .cells fam (ver + 1) e cs') ∨ (j < H.next ∧ H.objs.get j = some o') := by
    intro j o' q
    rcases Tr.get_set deep H.objs H.next (some (.cells fam (ver + 1) e cs')) j o' q with ⟨h1, h2⟩ | ⟨_, h2⟩
    · exact .inl ⟨h1, by simpa using h2.symm⟩
    · exact .inr ⟨(h.own _ _ h2).1, h2⟩
  have old : ∀ {j o b N}, (H.versioned fam ver lw e cs').objs.get j = some o → μ j = some (b, N) → H.objs.get j = some o := by
    intro j o b N q hm
    rcases get q with ⟨rfl, _⟩ | ⟨_, q⟩
    · rw [hun] at hm; cases hm
    · exact q
  have getF : ∀ {f t l}, (H.versioned fam ver lw e cs').fams.get f = some (t, l) → (f = fam ∧ t = H.next ∧ l = lw) ∨ (f ≠ fam ∧ H.fams.get f = some (t, l)) := by
    intro f t l q
    rcases Tr.get_set deep H.fams fam (some (H.next, lw)) f (t, l) q with ⟨h1, h2⟩ | h2
    · cases h2; exact .inl ⟨h1, rfl, rfl⟩
    · exact .inr h2
  refine ⟨h.resd, fun i v q => Nat.lt_succ_of_lt (h.hdom i v q), ?gfact, h.free, h.below, h.base, ?gdom, h.glob, ?gown, ?gsep, ?gvtop, ?gtip, ?gwrite, ?gcells, ?gmap, ?gloop, ?gdefd⟩
  case gfact =>
    intro j t q
    rcases get q with ⟨_, q⟩ | ⟨_, q⟩
    · cases q
    · exact h.fact _ _ q
  case gdom => intro j b N q; have := h.dom _ _ _ q; exact ⟨Nat.lt_succ_of_lt this.1, this.2⟩
  case gown =>
    intro j o q
    rcases get q with ⟨rfl, rfl⟩ | ⟨_, q⟩
    · exact ⟨Nat.lt_succ_self _, Nat.lt_succ_of_lt (h.own _ _ ho).2⟩
    · have := h.own _ _ q; exact ⟨Nat.lt_succ_of_lt this.1, Nat.lt_succ_of_lt this.2⟩
  case gsep => exact fun i j oi oj b N M h1 h2 h3 h4 => h.sep i j oi oj b N M (old h1 h3) (old h2 h4) h3 h4
  case gvtop =>
    intro a c f va ea ca vc ec cc l e1 e2 e3 hne
    rcases getF e3 with ⟨rfl, rfl, rfl⟩ | ⟨hfne, h3⟩
    · rcases get e2 with ⟨_, h2⟩ | ⟨hlt, _⟩
      · cases h2
        rcases get e1 with ⟨h1, _⟩ | ⟨_, h1⟩
        · exact absurd h1 hne
        · by_cases hai : a = i
          · subst hai; rw [ho] at h1; cases h1; omega
          · have := h.vtop _ _ _ _ _ _ _ _ _ _ h1 ho hf hai; omega
      · omega
    · have hc : c < H.next ∧ H.objs.get c = some (.cells f vc ec cc) := by
        rcases get e2 with ⟨_, h2⟩ | h2
        · cases h2; exact absurd rfl hfne
        · exact h2
      have ha : H.objs.get a = some (.cells f va ea ca) := by
        rcases get e1 with ⟨_, h2⟩ | h2
        · cases h2; exact absurd rfl hfne
        · exact h2.2
      exact h.vtop _ _ _ _ _ _ _ _ _ _ ha hc.2 h3 hne
  case gtip =>
    intro a c f va ea ca vc ec cc l b N M e1 e2 e3 h4 m1 m2
    rcases getF e3 with ⟨_, rfl, _⟩ | ⟨hfne, h3⟩
    · rw [hun] at m2; cases m2
    · exact h.tip _ _ _ _ _ _ _ _ _ _ _ _ _ (old e1 m1) (old e2 m2) h3 h4 m1 m2
  case gwrite =>
    intro a f v e' c l b N e1 e2 m1
    rcases getF e2 with ⟨_, rfl, _⟩ | ⟨hfne, h3⟩
    · rw [hun] at m1; cases m1
    · exact h.write _ _ _ _ _ _ _ _ (old e1 m1) h3 m1
  case gcells =>
    intro a f v e' c t l b N e1 e2 e3 m1
    rcases getF e2 with ⟨rfl, _, rfl⟩ | ⟨hfne, h3⟩
    · exact h.cells _ _ _ _ _ _ _ _ _ (old e1 m1) hf e3 m1
    · exact h.cells _ _ _ _ _ _ _ _ _ (old e1 m1) h3 e3 m1
  case gmap => exact fun a kt es b N h1 h2 => h.map _ _ _ _ _ (old h1 h2) h2
  case gloop => exact fun a st pend fn nt T ps as bd dd b N h1 h2 => h.loop _ _ _ _ _ _ _ _ _ _ _ _ (old h1 h2) h2
  case gdefd => exact fun a op b N h1 h2 => h.defd _ _ _ _ (old h1 h2) h2

/-- The new version lies where the elder one lies: the cells behind it are written. -/
theorem Rep.versionHere (h : Rep P B w0 G μ H w) {i fam ver lw b N : Nat} {e : TypeId} {cs xs : AV} {ys : List Value} (ho : H.objs.get i = some (.cells fam ver e cs)) (hf : H.fams.get fam = some (i, lw)) (hl : lw ≤ ver)
    (hm : μ i = some (b, N)) (hx : LR μ xs ys) (hroom : cs.len + ys.length ≤ N) :
    ∃ arr te, w.heap[b]? = some (.cells arr te (0, 0)) ∧ arr.size = N ∧
      Rep P B w0 G (μ.add H.next b N) (H.versioned fam ver lw e (cs.app xs)) (w.setRow b (arr.toList.take cs.len ++ ys ++ arr.toList.drop (cs.len + ys.length)).toArray) := by
  obtain ⟨arr, te, fz, hw, hN, hcN, hLR, hfz⟩ := h.cells _ _ _ _ _ _ _ _ _ ho hf hl hm
  have hB := h.write _ _ _ _ _ _ _ _ ho hf hm
  rw [hfz hB] at hw
  have hAl : arr.toList.length = N := by simpa using hN
  refine ⟨arr, te, hw, hN, ?_⟩
  have hun := h.notYet (i := H.next) (Nat.le_refl _)
  have hle : μ.le (μ.add H.next b N) := Mu.le_add hun
  have hv := h.layVersion ho hf (cs.app xs)
  have htl := Tr.get_set deep H.fams fam (some (H.next, lw))
  have hnew : LR μ (cs.app xs) (((arr.toList.take cs.len ++ ys ++ arr.toList.drop (cs.len + ys.length)).toArray).toList.take (cs.app xs).len) := by
    rw [len_app hLR.isList, ← hx.len]
    have : ((arr.toList.take cs.len ++ ys ++ arr.toList.drop (cs.len + ys.length)).toArray).toList.take (cs.len + ys.length) = arr.toList.take cs.len ++ ys := by
      simp only
      rw [List.take_append_of_le_length (by simp; omega), List.take_of_length_le (by simp; omega)]
    rw [this]
    exact LR.app hx hLR
  have get : ∀ {j o'}, (H.versioned fam ver lw e (cs.app xs)).objs.get j = some o' → (j = H.next ∧ o' = .cells fam (ver + 1) e (cs.app xs)) ∨ (j < H.next ∧ H.objs.get j = some o') := by
    intro j o' q
    rcases Tr.get_set deep H.objs H.next (some (.cells fam (ver + 1) e (cs.app xs))) j o' q with ⟨h1, h2⟩ | ⟨_, h2⟩
    · exact .inl ⟨h1, by simpa using h2.symm⟩
    · exact .inr ⟨(h.own _ _ h2).1, h2⟩
  have getF : ∀ {f t l}, (H.versioned fam ver lw e (cs.app xs)).fams.get f = some (t, l) → (f = fam ∧ t = H.next ∧ l = lw) ∨ (f ≠ fam ∧ H.fams.get f = some (t, l)) := by
    intro f t l q
    rcases htl f (t, l) q with ⟨h1, h2⟩ | h2
    · cases h2; exact .inl ⟨h1, rfl, rfl⟩
    · exact .inr h2
  have split : ∀ {j o' b' M}, (H.versioned fam ver lw e (cs.app xs)).objs.get j = some o' → μ.add H.next b N j = some (b', M) →
      (j = H.next ∧ o' = .cells fam (ver + 1) e (cs.app xs) ∧ b' = b ∧ M = N) ∨ (j < H.next ∧ H.objs.get j = some o' ∧ μ j = some (b', M)) := by
    intro j o' b' M q m
    rcases get q with ⟨rfl, rfl⟩ | ⟨hlt, q⟩
    · rcases Mu.add_cases m with ⟨_, m⟩ | ⟨hne, _⟩
      · cases m; exact .inl ⟨rfl, rfl, rfl, rfl⟩
      · exact absurd rfl hne
    · rcases Mu.add_cases m with ⟨rfl, _⟩ | ⟨_, m⟩
      · omega
      · exact .inr ⟨hlt, q, m⟩
  refine ⟨hv.resd, fun i v q => hv.hdom i v q, ?gfact, ?gfree, below_setRow h.below hB _, h.base, ?gdom, ?gglob, hv.own, ?gsep, hv.vtop, ?gtip, ?gwrite, ?gcells, ?gmap, ?gloop, ?gdefd⟩
  case gdom =>
    intro j c M q
    rw [size_setRow]
    rcases Mu.add_cases q with ⟨rfl, q'⟩ | ⟨_, q'⟩
    · cases q'; exact ⟨Nat.lt_succ_self _, (h.dom _ _ _ hm).2⟩
    · have := h.dom _ _ _ q'; exact ⟨Nat.lt_succ_of_lt this.1, this.2⟩
  case gfact =>
    intro j t q
    obtain ⟨v, h3, h4⟩ := hv.fact _ _ q
    exact ⟨v, h3, G.stable _ _ _ _ (kept_setRow hw (h.free _ _ _ hm hB _ _ _ hw) _) h4⟩
  case gfree =>
    intro j c M q hc cs' te' fz' q2
    rcases Mu.add_cases q with ⟨_, q'⟩ | ⟨_, q'⟩
    · cases q'; exact free_setRow h hw _ _ _ _ hm hc _ _ _ q2
    · exact free_setRow h hw _ _ _ _ q' hc _ _ _ q2
  case gglob => intro g hg; obtain ⟨M, q⟩ := h.glob g hg; exact ⟨M, hle _ _ q⟩
  case gsep =>
    intro a c oa oc b' M M' e1 e2 m1 m2
    rcases split e1 m1 with ⟨rfl, rfl, rfl, rfl⟩ | ⟨_, h1, k1⟩ <;> rcases split e2 m2 with ⟨rfl, rfl, q3, q4⟩ | ⟨_, h2, k2⟩
    · rfl
    · have q := h.sep _ _ _ _ _ _ _ ho h2 hm k2; exact q
    · subst q3; have q := h.sep _ _ _ _ _ _ _ h1 ho k1 hm; exact q
    · exact h.sep _ _ _ _ _ _ _ h1 h2 k1 k2
  case gtip =>
    intro a c f va ea ca vc ec cc l b' M M' e1 e2 e3 h4 m1 m2
    rcases getF e3 with ⟨rfl, rfl, rfl⟩ | ⟨hfne, h3⟩
    · rcases split e2 m2 with ⟨_, q2, rfl, rfl⟩ | ⟨hlt, _⟩
      · cases q2
        rcases split e1 m1 with ⟨_, q1, _⟩ | ⟨_, h1, k1⟩
        · cases q1; exact Nat.le_refl _
        · have := h.tip _ _ _ _ _ _ _ _ _ _ _ _ _ h1 ho hf h4 k1 hm
          rw [len_app hLR.isList]; omega
      · omega
    · rcases split e1 m1 with ⟨_, q1, _⟩ | ⟨_, h1, k1⟩
      · cases q1; exact absurd rfl hfne
      · rcases split e2 m2 with ⟨_, q2, _⟩ | ⟨_, h2, k2⟩
        · cases q2; exact absurd rfl hfne
        · exact h.tip _ _ _ _ _ _ _ _ _ _ _ _ _ h1 h2 h3 h4 k1 k2
  case gwrite =>
    intro a f v e' c l b' M e1 e2 m1
    rcases split e1 m1 with ⟨_, _, rfl, _⟩ | ⟨hlt, h1, k1⟩
    · exact hB
    · rcases getF e2 with ⟨_, rfl, _⟩ | ⟨_, h3⟩
      · omega
      · exact h.write _ _ _ _ _ _ _ _ h1 h3 k1
  case gcells =>
    intro a f v e' c t l b' M e1 e2 e3 m1
    rcases split e1 m1 with ⟨rfl, q1, rfl, rfl⟩ | ⟨hlt, h1, k1⟩
    · cases q1
      refine ⟨_, te, (0, 0), heap_setRow_same hw, ?_, ?_, hnew.mono hle, fun _ => rfl⟩
      · simp; omega
      · rw [len_app hLR.isList, ← hx.len]; exact hroom
    · have hlive : ∃ t' , H.fams.get f = some (t', l) := by
        rcases getF e2 with ⟨rfl, _, rfl⟩ | ⟨_, h3⟩
        · exact ⟨_, hf⟩
        · exact ⟨_, h3⟩
      obtain ⟨t', h3⟩ := hlive
      obtain ⟨arr', te', fz', p1, p2, p3, p4, p5⟩ := h.cells _ _ _ _ _ _ _ _ _ h1 h3 e3 k1
      by_cases hbb : b' = b
      · subst hbb
        rw [hw] at p1; cases p1
        have hfam : f = fam := h.sep _ _ _ _ _ _ _ h1 ho k1 hm
        subst hfam
        rw [hf] at h3; cases h3
        have hshort := h.tip _ _ _ _ _ _ _ _ _ _ _ _ _ h1 ho hf e3 k1 hm
        refine ⟨_, te, (0, 0), heap_setRow_same hw, by simp; omega, p3, ?_, fun _ => rfl⟩
        have : ((arr.toList.take cs.len ++ ys ++ arr.toList.drop (cs.len + ys.length)).toArray).toList.take c.len = arr.toList.take c.len := by
          simp only
          rw [List.append_assoc, List.take_append_of_le_length (by simp; omega), List.take_take, Nat.min_eq_left hshort]
        rw [this]
        exact p4.mono hle
      · exact ⟨arr', te', fz', by rw [heap_setRow_other hbb]; exact p1, p2, p3, p4.mono hle, p5⟩
  case gmap =>
    intro a kt es b' M e1 m1
    rcases split e1 m1 with ⟨_, q1, _⟩ | ⟨hlt, h1, k1⟩
    · cases q1
    · obtain ⟨p1, en, cl, p2, p3⟩ := h.map _ _ _ _ _ h1 k1
      have hbb : b' ≠ b := by intro q; subst q; rw [hw] at p2; cases p2
      exact ⟨p1, en, cl, by rw [heap_setRow_other hbb]; exact p2, p3.mono hle⟩
  case gloop =>
    intro a st pend fn nt T ps as bd dd b' M e1 m1
    rcases split e1 m1 with ⟨_, q1, _⟩ | ⟨hlt, h1, k1⟩
    · cases q1
    · obtain ⟨p1, L, d, M', p2, p3, p4, p5, p6, p7, p8, p9, p10⟩ := h.loop _ _ _ _ _ _ _ _ _ _ _ _ h1 k1
      have hbb : b' ≠ b := by intro q; subst q; rw [hw] at p2; cases p2
      exact ⟨p1, L, d, M', by rw [heap_setRow_other hbb]; exact p2, p3, p4, p5.mono hle, p6, p7, p8, hle _ _ p9, p10⟩
  case gdefd =>
    intro a op b' M e1 m1
    rcases split e1 m1 with ⟨_, q1, _⟩ | ⟨hlt, h1, k1⟩
    · cases q1
    · obtain ⟨p1, p2⟩ := h.defd _ _ _ _ h1 k1
      have hbb : b' ≠ b := by intro q; subst q; rw [hw] at p2; cases p2
      exact ⟨p1, by rw [heap_setRow_other hbb]; exact p2⟩

end

section
variable {P : Program} {w : World}

theorem pure?_run {α : Type} : ∀ {s : Sem α} {a : α}, pure? P s = some a → s.run P w = .ok a w
  | .pure a, b, h => by simp [pure?] at h; subst h; rfl
  | .program k, b, h => by
    simp only [pure?] at h
    simp only [Sem.run]
    exact pure?_run h
  | .load .., _, h | .store .., _, h | .new .., _, h | .shape .., _, h | .freeze .., _, h | .frozen .., _, h | .getObj .., _, h | .setObj .., _, h | .choose .., _, h | .sys .., _, h | .mark .., _, h | .halt .., _, h => by simp [pure?] at h

theorem scalar_run {s : Sem Value} {v : AV} (μ : Mu) (h : scalar P s = some v) : ∃ x, s.run P w = .ok x w ∧ VR μ v x := by
  unfold scalar at h
  split at h
  · rename_i u hu
    simp only [Option.map_eq_some_iff] at h
    obtain ⟨q, hq, rfl⟩ := h
    exact ⟨u, pure?_run hu, (Sc.of_val hq).symm⟩
  · simp at h

theorem info_of_size {t : TypeId} {n : Nat} (h : sizeT P t = some n) : ∃ i, P.info? t = some i ∧ i.size = n := by
  unfold sizeT at h
  split at h
  · rename_i i hi; simp at h; exact ⟨i, hi, h⟩
  · simp at h
theorem run_size {t : TypeId} {n : Nat} (h : sizeT P t = some n) (w : World) : (sizeOf t).run P w = .ok n w := by
  obtain ⟨i, hi, rfl⟩ := info_of_size h
  simp [sizeOf, typeInfo, hi]
theorem run_agg {t : TypeId} {q : Bool} (h : aggT P t = some q) (w : World) : (isAgg t).run P w = .ok q w := by
  unfold aggT at h
  split at h
  · rename_i f hu; simp at h; subst h; simp [isAgg, run_underlying hu]
  · rename_i n e hu; simp at h; subst h; simp [isAgg, run_underlying hu]
  · rename_i d h1 h2 hu
    simp at h; subst h
    simp only [isAgg, Sem.run_bind, run_underlying hu, Result.andThen_ok]
    rfl
  · simp at h
theorem zero_of {t : TypeId} {z : AV} (μ : Mu) (h : zeroOf P t = some z) : ∃ i x, P.info? t = some i ∧ i.zero = some x ∧ VR μ z x ∧ ∀ w, (zeroValue t).run P w = .ok x w := by
  unfold zeroOf at h
  split at h
  · rename_i i hi
    split at h
    · rename_i x hx
      exact ⟨i, x, hi, hx, ofVal_VR μ h, fun w => by simp [zeroValue, typeInfo, hi, hx]⟩
    · simp at h
  · simp at h

theorem natOf_int {v : AV} {n : Nat} (h : natOf v = some n) : ∃ k, v = .sc (.int k (n : Int)) := by
  unfold natOf at h
  split at h
  · simp at h; subst h; exact ⟨_, rfl⟩
  · simp at h

theorem VR.cells {μ : Mu} {v : AV} {x : Value} (h : VR μ v x) : LR μ v.cells x.cells.toList := by
  cases v with
  | agg cs => obtain ⟨xs, rfl, hx⟩ := h; exact hx
  | sc s =>
    have hx : x = s.val := h
    subst hx
    cases s <;> exact LR.cons rfl rfl
  | ptr i o => obtain ⟨b, N, hm, rfl⟩ := h; exact LR.cons ⟨b, N, hm, rfl⟩ rfl
  | slc i o l c e s => obtain ⟨b, N, q, hm, rfl, h1⟩ := h; exact LR.cons ⟨b, N, q, hm, rfl, h1⟩ rfl
  | map i => obtain ⟨b, N, hm, rfl⟩ := h; exact LR.cons ⟨b, N, hm, rfl⟩ rfl
  | yield i => obtain ⟨b, N, hm, rfl⟩ := h; exact LR.cons ⟨b, N, hm, rfl⟩ rfl
  | fn f a b => obtain ⟨xs, ys, rfl, h1⟩ := h; exact LR.cons ⟨xs, ys, rfl, h1⟩ rfl
  | hc i k =>
    have h' := h
    obtain ⟨v, h1, h2, h3⟩ := h
    have e : x.cells = #[x] := by cases x <;> first | rfl | simp [Value.oneCell'] at h3
    rw [e]
    exact LR.cons h' rfl
  | hs i => obtain ⟨s, h1, rfl⟩ := h; exact LR.cons ⟨s, h1, rfl⟩ rfl
  | iface t v => obtain ⟨y, rfl, h1⟩ := h; exact LR.cons ⟨y, rfl, h1⟩ rfl
  | tup cs => obtain ⟨xs, rfl, h1⟩ := h; exact LR.cons ⟨xs, rfl, h1⟩ rfl
  | nil => exact h.elim
  | cons a t => exact h.elim

theorem add_off (b o n : Nat) : (⟨b, o, none⟩ : Addr).add n = ⟨b, o + n, none⟩ := by unfold Addr.add; split <;> simp_all

/-! ### Parts and keys -/
theorem part_run {μ : Mu} {t : TypeId} {cs : AV} {off : Nat} {v : AV} {xs : Array Value} (h : partOf P t cs off = some v) (hx : LR μ cs xs.toList) (w : World) : ∃ x, (part t xs off).run P w = .ok x w ∧ VR μ v x := by
  unfold partOf at h
  split at h
  · rename_i n ha hs
    simp only at h
    cases hb : Nat.beq ((cs.drop off).take n).len n with
    | false => rw [hb] at h; simp at h
    | true =>
      rw [hb] at h
      simp only [cond_true, Option.some.injEq] at h
      subst h
      refine ⟨.agg (xs.extract off (off + n)), by simp [part, run_agg ha, run_size hs], _, rfl, ?_⟩
      have := (hx.drop off).take n
      have he : (xs.extract off (off + n)).toList = (xs.toList.drop off).take n := by
        rw [Array.toList_extract, List.extract_eq_take_drop, Nat.add_sub_cancel_left]
      rw [he]; exact this
  · rename_i n ha hs
    obtain ⟨x, h1, h2⟩ := hx.nth h
    have h1' : xs[off]? = some x := by simpa using h1
    exact ⟨x, by simp [part, run_agg ha, h1'], h2⟩
  · simp at h

theorem keyFits_cases {t : TypeId} {v : AV} (h : keyFits P t v = true) :
    (∃ k n, P.underlying t = some (.int k) ∧ v = .sc (.int k n)) ∨ (∃ s, P.underlying t = some .string ∧ v = .sc (.str s)) ∨ (∃ b, P.underlying t = some .bool ∧ v = .sc (.bool b)) ∨
    (∃ n e k cs, P.underlying t = some (.array n e) ∧ P.underlying e = some (.int k) ∧ sizeT P e = some 1 ∧ v = .agg cs ∧ cs.len = n ∧ allInts k cs = true) := by
  unfold keyFits at h
  split at h
  · rename_i k k' n hu; exact .inl ⟨k, n, hu, by rw [beqK_eq h]⟩
  · rename_i s hu; exact .inr (.inl ⟨s, hu, rfl⟩)
  · rename_i b hu; exact .inr (.inr (.inl ⟨b, hu, rfl⟩))
  · rename_i n e cs hu
    split at h
    · rename_i k he hs
      simp only [Bool.and_eq_true] at h
      exact .inr (.inr (.inr ⟨n, e, k, cs, hu, he, hs, rfl, (beq_iff _ _).1 h.1, h.2⟩))
    · simp at h
  · simp at h

theorem beqI_self (n : Int) : beqI n n = true := by cases n <;> simp [beqI]
theorem beqK_self (k : IntKind) : beqK k k = true := by cases k <;> rfl
theorem beqI_iff (a b : Int) : beqI a b = (a == b) := by
  rw [Bool.eq_iff_iff, beq_iff_eq]
  exact ⟨beqI_eq, fun h => h ▸ beqI_self a⟩
theorem beqB_iff (a b : Bool) : beqB a b = (a == b) := by cases a <;> cases b <;> rfl
theorem beqBytes_self : ∀ l : List UInt8, beqBytes l l = true
  | [] => rfl
  | b :: t => by simp [beqBytes, beqBytes_self t]
theorem beqStr_iff (a b : ByteArray) : beqBytes a.data.toList b.data.toList = (a == b) := by
  have e : (a == b) = (a.data == b.data) := rfl
  rw [e, Bool.eq_iff_iff, beq_iff_eq]
  constructor
  · intro h
    exact Array.toList_inj.1 (beqBytes_eq h)
  · intro h; rw [h]; exact beqBytes_self _

theorem allInts_cons {k : IntKind} {h t : AV} (q : allInts k (.cons h t) = true) : ∃ n, h = .sc (.int k n) ∧ allInts k t = true := by
  cases h with
  | sc s => cases s with
    | int k' n => simp only [allInts, Bool.and_eq_true] at q; exact ⟨n, by rw [beqK_eq q.1], q.2⟩
    | _ => simp [allInts] at q
  | _ => simp [allInts] at q

theorem eqItems_run {μ : Mu} {e : TypeId} {k : IntKind} (he : P.underlying e = some (.int k)) (d : Nat) (xs ys : Array Value) (w : World) : ∀ (a b : AV) (s m : Nat),
    LR μ a (xs.toList.drop s) → LR μ b (ys.toList.drop s) → allInts k a = true → allInts k b = true → a.len = m → b.len = m →
    (Op.eqItems (d + 1) e 1 xs ys (List.range' s m)).run P w = .ok (a.beq b) w := by
  intro a
  induction a with
  | nil =>
    intro b s m ha hb h1 h2 h3 h4
    simp [AV.len] at h3; subst h3
    cases b with
    | nil => simp [Op.eqItems, AV.beq]
    | cons x t => simp [AV.len] at h4
    | _ => exact hb.elim
  | cons h t _ ih =>
    intro b s m ha hb h1 h2 h3 h4
    cases b with
    | nil => simp [AV.len] at h3 h4; omega
    | cons h' t' =>
      obtain ⟨n, rfl, i1⟩ := allInts_cons h1
      obtain ⟨n', rfl, i2⟩ := allInts_cons h2
      obtain ⟨x, r, e1, x1, r1⟩ := ha
      obtain ⟨y, q, e2, y1, r2⟩ := hb
      have hx : x = .int k n := x1
      have hy : y = .int k n' := y1
      subst hx; subst hy
      have gx : xs[s]? = some (.int k n) := by
        have := congrArg (fun l => l[0]?) e1
        simpa using this
      have gy : ys[s]? = some (.int k n') := by
        have := congrArg (fun l => l[0]?) e2
        simpa using this
      have dx : xs.toList.drop (s + 1) = r := by rw [← List.drop_drop, e1]; rfl
      have dy : ys.toList.drop (s + 1) = q := by rw [← List.drop_drop, e2]; rfl
      obtain ⟨m', rfl⟩ : ∃ m', m = m' + 1 := ⟨t.len, by simp [AV.len] at h3; omega⟩
      have ih' := ih t' (s + 1) m' (by rw [dx]; exact r1) (by rw [dy]; exact r2) i1 i2 (by simp [AV.len] at h3; omega) (by simp [AV.len] at h4; omega)
      rw [List.range'_succ]
      simp only [Op.eqItems, Sem.run_bind, Nat.mul_one]
      have p1 : (part e xs s).run P w = .ok (.int k n) w := by simp [part, isAgg, run_underlying he, gx]
      have p2 : (part e ys s).run P w = .ok (.int k n') w := by simp [part, isAgg, run_underlying he, gy]
      have p3 : (Op.equalIn (d + 1) e (.int k n) (.int k n')).run P w = .ok (n == n') w := by simp [Op.equalIn, run_underlying he]
      rw [p1]; simp only [Result.andThen_ok]
      rw [p2]; simp only [Result.andThen_ok]
      rw [p3]; simp only [Result.andThen_ok]
      have hb : (AV.cons (.sc (.int k n)) t).beq (.cons (.sc (.int k n')) t') = ((n == n') && t.beq t') := by
        simp only [AV.beq, Sc.beq, beqK_self, Bool.true_and, beqI_iff]
      rw [hb]
      cases hq : (n == n') with
      | false => simp
      | true => simp only [Bool.not_true, Bool.false_eq_true, if_false, Bool.true_and]; exact ih'
    | _ => exact hb.elim
  | _ => intro b s m ha; exact ha.elim

theorem equal_run {μ : Mu} {t : TypeId} {a b : AV} {x y : Value} (ha : keyFits P t a = true) (hb : keyFits P t b = true) (hx : VR μ a x) (hy : VR μ b y) (d : Nat) (w : World) :
    (Op.equalIn (d + 2) t x y).run P w = .ok (a.beq b) w := by
  rcases keyFits_cases ha with ⟨k, n, hu, rfl⟩ | ⟨s, hu, rfl⟩ | ⟨q, hu, rfl⟩ | ⟨n, e, k, cs, hu, he, hs, rfl, hl, hi⟩ <;>
    rcases keyFits_cases hb with ⟨k', n', hu', rfl⟩ | ⟨s', hu', rfl⟩ | ⟨q', hu', rfl⟩ | ⟨n', e', k', cs', hu', he', hs', rfl, hl', hi'⟩ <;> rw [hu] at hu' <;> try (simp at hu'; done)
  · have hx' : x = .int k n := hx
    have hy' : y = .int k' n' := hy
    simp at hu'; subst hu'
    subst hx'; subst hy'
    simp [Op.equalIn, run_underlying hu, AV.beq, Sc.beq, beqK_self, beqI_iff]
  · have hx' : x = .string s := hx
    have hy' : y = .string s' := hy
    subst hx'; subst hy'
    simp [Op.equalIn, run_underlying hu, AV.beq, Sc.beq, beqStr_iff]
  · have hx' : x = .bool q := hx
    have hy' : y = .bool q' := hy
    subst hx'; subst hy'
    simp [Op.equalIn, run_underlying hu, AV.beq, Sc.beq, beqB_iff]
  · obtain ⟨xs, rfl, hx1⟩ := hx
    obtain ⟨ys, rfl, hy1⟩ := hy
    simp at hu'
    obtain ⟨rfl, rfl⟩ := hu'
    rw [he] at he'; simp at he'; subst he'
    obtain ⟨i, hinf, hsz⟩ := info_of_size hs
    rw [run_equalIn_array w (d + 1) xs ys hu hinf]
    have hc : P.cellsOf e = 1 := by simp [Program.cellsOf, hinf, hsz]
    rw [hc, List.range_eq_range']
    have := eqItems_run he d xs ys w cs cs' 0 n (by rw [List.drop_zero]; exact hx1) (by rw [List.drop_zero]; exact hy1) hi hi' hl hl'
    simpa [AV.beq] using this

end

section
variable {P : Program} {B : Nat} {w0 : World} {G : Sett} {μ : Mu} {H : AH} {w : World}

theorem blt_iff (m n : Nat) : Nat.blt m n = true ↔ m < n := ⟨fun h => Nat.le_of_ble_eq_true h, fun h => Nat.ble_eq_true_of_le h⟩

theorem run_val {s : Sem Value} {x : Value} {w' : World} (h : s.run P w = .ok x w') : (do pure (Next.value (← s)) : Sem Next).run P w = .ok (.value x) w' := by
  simp [h]

/-- An integer index, as the model reads it. -/
theorem nat_val {v : AV} {n : Nat} {x : Value} (h : natOf v = some n) (hv : VR μ v x) : ∃ k, x = .int k (n : Int) := by
  obtain ⟨k, rfl⟩ := natOf_int h
  exact ⟨k, hv⟩

theorem load_agg (h : Rep P B w0 G μ H w) {t : TypeId} {i off n : Nat} {x : Value} {cs : AV} (ha : aggT P t = some true) (hs : sizeT P t = some n) (hx : VR μ (.ptr i off) x) (hc : H.cellsAt i off n = some cs) :
    ∃ y, (Instr.loadAt t x).run P w = .ok y w ∧ VR μ (.agg cs) y := by
  obtain ⟨b, N, hm, rfl⟩ := hx
  obtain ⟨xs, hl, hL, hcell⟩ := h.load hc hm
  have hr := run_loadCells_list (P := P) w ⟨b, off, none⟩ xs hcell
  rw [hl] at hr
  exact ⟨.agg xs.toArray, by simp [Instr.loadAt, Instr.sureAddr, loadVar, run_agg ha, run_size hs, hr], _, rfl, hL⟩

theorem load_one (h : Rep P B w0 G μ H w) {t : TypeId} {i off : Nat} {x : Value} {v r : AV} (ha : aggT P t = some false) (hx : VR μ (.ptr i off) x) (hc : H.cellsAt i off 1 = some (.cons v r)) :
    ∃ y, (Instr.loadAt t x).run P w = .ok y w ∧ VR μ v y := by
  obtain ⟨b, N, hm, rfl⟩ := hx
  obtain ⟨xs, hl, hL, hcell⟩ := h.load hc hm
  obtain ⟨y, r', rfl, h1, h2⟩ := hL
  have := hcell 0 y rfl
  rw [add_off, Nat.add_zero] at this
  exact ⟨y, by simp [Instr.loadAt, Instr.sureAddr, loadVar, run_agg ha, this], h1⟩

theorem nilEq_run {t : TypeId} {a b : AV} {x y : Value} {r : Bool} (h : nilEq P t a b = some r) (hx : VR μ a x) (hy : VR μ b y) (w : World) (d : Nat) : (Op.equalIn (d + 1) t x y).run P w = .ok r w := by
  unfold nilEq at h
  split at h <;> simp at h <;> subst h <;> rename_i hu
  · have e1 : x = .pointer none := hx
    have e2 : y = .pointer none := hy
    subst e1; subst e2; simp [Op.equalIn, run_underlying hu]
  · obtain ⟨b, N, hm, rfl⟩ := hx
    have e2 : y = .pointer none := hy
    subst e2; simp [Op.equalIn, run_underlying hu]
  · obtain ⟨b, N, hm, rfl⟩ := hy
    have e2 : x = .pointer none := hx
    subst e2; simp [Op.equalIn, run_underlying hu]
  · have e1 : x = .slice none 0 0 := hx
    have e2 : y = .slice none 0 0 := hy
    subst e1; subst e2; simp [Op.equalIn, run_underlying hu]
  · obtain ⟨b, N, c, hm, rfl, _⟩ := hx
    have e2 : y = .slice none 0 0 := hy
    subst e2; simp [Op.equalIn, run_underlying hu]
  · have e1 : x = .map none := hx
    have e2 : y = .map none := hy
    subst e1; subst e2; simp [Op.equalIn, run_underlying hu]
  · obtain ⟨b, N, hm, rfl⟩ := hx
    have e2 : y = .map none := hy
    subst e2; simp [Op.equalIn, run_underlying hu]
  · have e1 : x = .nilFunc := hx
    have e2 : y = .nilFunc := hy
    subst e1; subst e2; simp [Op.equalIn, run_underlying hu]
  · obtain ⟨xs, ys, rfl, _⟩ := hx
    have e2 : y = .nilFunc := hy
    subst e2; simp [Op.equalIn, run_underlying hu]

/-- The guard in front of == does nothing at these values. -/
theorem guard_run (op : BinOp) (t : TypeId) (x y : Operand) (a b : Value) (h : (∀ as bs, a = .agg as → b = .agg bs → P.eqGuardType P.depth t = false)) (hn : ¬ (a = .nilIface ∧ b = .nilIface)) (w : World) :
    (eqGuard op t x y a b).run P w = .ok () w := by
  have core : (match a, b with
      | .nilIface, .nilIface => (eqGuard op t x y .nilIface .nilIface).run P w
      | .agg as, .agg bs => (eqGuard op t x y (.agg as) (.agg bs)).run P w
      | _, _ => Result.ok () w) = .ok () w := by
    split
    · exact absurd ⟨rfl, rfl⟩ hn
    · rename_i as bs
      exact run_eqGuard_agg w op t x y as bs (h _ _ rfl rfl)
    · rfl
  split at core
  · exact core
  · exact core
  · rename_i h1 h2
    unfold eqGuard
    cases op <;> simp only [Bool.not_true, Bool.not_false, if_true, Bool.false_eq_true, if_false] <;> first | rfl | (split <;> first | rfl | exact (h1 rfl rfl).elim | exact (h2 _ _ rfl rfl).elim)

/-- What == says of two values one of which is nil. -/
theorem binOp_nil {t : TypeId} {a b : AV} {x y : Value} {r : Bool} (h : nilEq P t a b = some r) (hx : VR μ a x) (hy : VR μ b y) (w : World) :
    (binOp .eql t x y).run P w = .ok (.bool r) w ∧ (binOp .neq t x y).run P w = .ok (.bool (!r)) w ∧ (∀ as bs, x = .agg as → y = .agg bs → P.eqGuardType P.depth t = false) ∧ ¬ (x = .nilIface ∧ y = .nilIface) := by
  have he : (Op.equal t x y).run P w = .ok r w := nilEq_run h hx hy w 9999
  unfold nilEq at h
  split at h <;> simp at h <;> subst h
  · have e1 : x = .pointer none := hx
    have e2 : y = .pointer none := hy
    subst e1; subst e2; simp [binOp, he]
  · obtain ⟨b, N, hm, rfl⟩ := hx
    have e2 : y = .pointer none := hy
    subst e2; simp [binOp, he]
  · obtain ⟨b, N, hm, rfl⟩ := hy
    have e2 : x = .pointer none := hx
    subst e2; simp [binOp, he]
  · have e1 : x = .slice none 0 0 := hx
    have e2 : y = .slice none 0 0 := hy
    subst e1; subst e2; simp [binOp, he]
  · obtain ⟨b, N, c, hm, rfl, _⟩ := hx
    have e2 : y = .slice none 0 0 := hy
    subst e2; simp [binOp, he]
  · have e1 : x = .map none := hx
    have e2 : y = .map none := hy
    subst e1; subst e2; simp [binOp, he]
  · obtain ⟨b, N, hm, rfl⟩ := hx
    have e2 : y = .map none := hy
    subst e2; simp [binOp, he]
  · have e1 : x = .nilFunc := hx
    have e2 : y = .nilFunc := hy
    subst e1; subst e2; simp [binOp, he]
  · obtain ⟨xs, ys, rfl, _⟩ := hx
    have e2 : y = .nilFunc := hy
    subst e2; simp [binOp, he]

theorem bin_sound {op : BinOp} {t : TypeId} {ox oy : Operand} {a b v : AV} {x y : Value} (h : binV P op t a b = some v) (hx : VR μ a x) (hy : VR μ b y) (w : World) :
    ∃ z, (do eqGuard op t ox oy x y; binOp op t x y : Sem Value).run P w = .ok z w ∧ VR μ v z := by
  unfold binV at h
  split at h
  · rename_i j p l q
    have e1 : x = .int j p := hx
    have e2 : y = .int l q := hy
    subst e1; subst e2
    obtain ⟨z, h1, h2⟩ := scalar_run (w := w) μ h
    exact ⟨z, by simp [guard_run op t ox oy (.int j p) (.int l q) (by simp) (by simp) w, h1], h2⟩
  · rename_i p q
    have e1 : x = .bool p := hx
    have e2 : y = .bool q := hy
    subst e1; subst e2
    obtain ⟨z, h1, h2⟩ := scalar_run (w := w) μ h
    exact ⟨z, by simp [guard_run op t ox oy (.bool p) (.bool q) (by simp) (by simp) w, h1], h2⟩
  · rename_i p q
    have e1 : x = .string p := hx
    have e2 : y = .string q := hy
    subst e1; subst e2
    obtain ⟨z, h1, h2⟩ := scalar_run (w := w) μ h
    exact ⟨z, by simp [guard_run op t ox oy (.string p) (.string q) (by simp) (by simp) w, h1], h2⟩
  · rename_i p q
    cases hb : (keyFits P t (.agg p) && keyFits P t (.agg q) && !P.eqGuardType P.depth t) with
    | false => rw [hb] at h; simp at h
    | true =>
      rw [hb] at h
      simp only [Bool.and_eq_true, Bool.not_eq_true'] at hb
      have heq := equal_run hb.1.1 hb.1.2 hx hy 9998 w
      have heq' : (Op.equal t x y).run P w = .ok ((AV.agg p).beq (.agg q)) w := heq
      obtain ⟨xs, rfl, _⟩ := hx
      obtain ⟨ys, rfl, _⟩ := hy
      have hg := guard_run op t ox oy (.agg xs) (.agg ys) (fun _ _ _ _ => hb.2) (by simp) w
      simp only [cond_true] at h
      cases op <;> simp at h <;> subst h
      · exact ⟨.bool (p.beq q), by simp [hg, binOp, heq', AV.beq], rfl⟩
      · exact ⟨.bool (!p.beq q), by simp [hg, binOp, heq', AV.beq], rfl⟩
  · rename_i i j
    cases hij : Nat.beq i j with
    | false => rw [hij] at h; simp at h
    | true =>
      rw [hij] at h
      have hij := (beq_iff _ _).1 hij
      subst hij
      obtain ⟨s, h1, rfl⟩ := hx
      obtain ⟨s', h2, rfl⟩ := hy
      rw [h1] at h2
      cases h2
      simp only [cond_true] at h
      have hself : (Op.stringOp .eql s s) = pure (.bool true) ∧ (Op.stringOp .neq s s) = pure (.bool false) := by simp [Op.stringOp]
      split at h
      · rename_i hu
        simp at h; subst h
        have hb : (binOp .eql t (.string s) (.string s)).run P w = .ok (.bool true) w := by
          simp [binOp, hself.1]
        exact ⟨.bool true, by simp [guard_run _ t ox oy (.string s) (.string s) (by simp) (by simp) w, hb], rfl⟩
      · rename_i hu
        simp at h; subst h
        have hb : (binOp .neq t (.string s) (.string s)).run P w = .ok (.bool false) w := by
          simp [binOp, hself.2]
        exact ⟨.bool false, by simp [guard_run _ t ox oy (.string s) (.string s) (by simp) (by simp) w, hb], rfl⟩
      · simp at h
  · split at h
    · rename_i q hr
      simp at h; subst h
      obtain ⟨h1, h2, h3, h4⟩ := binOp_nil hr hx hy w
      exact ⟨.bool q, by simp [guard_run _ t ox oy x y h3 h4 w, h1], rfl⟩
    · rename_i q hr
      simp at h; subst h
      obtain ⟨h1, h2, h3, h4⟩ := binOp_nil hr hx hy w
      exact ⟨.bool (!q), by simp [guard_run _ t ox oy x y h3 h4 w, h2], rfl⟩
    · simp at h

theorem bound_run {b : Option (Option AV)} {d l y : Nat} {c : BoundsCode} {ov : Option Value} (h : bound b d = some l) (ho : ∀ v, b = some (some v) → ∃ x, ov = some x ∧ VR μ v x) (hn : b = none → ov = none) (hy : l ≤ y) (hd : b = none → d = l) (w : World) :
    (b = none ∧ ov = none ∧ l = d) ∨ ∃ x, ov = some x ∧ (Instr.sliceBound x y c).run P w = .ok l w := by
  unfold bound at h
  split at h
  · exact .inl ⟨rfl, hn rfl, (hd rfl).symm⟩
  · rename_i v
    obtain ⟨x, hx, hv⟩ := ho v rfl
    obtain ⟨k, rfl⟩ := nat_val h hv
    refine .inr ⟨_, hx, ?_⟩
    have h0 : (0 : Int) ≤ (l : Int) ∧ (l : Int) ≤ (y : Int) := ⟨by omega, by omega⟩
    simp [Instr.sliceBound, asIntOf, h0]
  · simp at h

theorem bounds_run {blo bhi : Option (Option AV)} {lo hi : Option Value} {l h len cap : Nat} (isS : Bool) (e1 : bound blo 0 = some l) (e2 : bound bhi len = some h)
    (o1 : ∀ v, blo = some (some v) → ∃ x, lo = some x ∧ VR μ v x) (n1 : blo = none → lo = none) (o2 : ∀ v, bhi = some (some v) → ∃ x, hi = some x ∧ VR μ v x) (n2 : bhi = none → hi = none)
    (h1 : l ≤ h) (h2 : h ≤ cap) (w : World) : (Instr.sliceBounds isS len cap lo hi none).run P w = .ok (l, h, cap) w := by
  have a1 : bhi = none → len = h := by intro q; rw [q] at e2; simpa [bound] using e2
  have a2 : blo = none → 0 = l := by intro q; rw [q] at e1; simpa [bound] using e1
  have r2 := fun c => bound_run (P := P) (c := c) (y := cap) e2 o2 n2 h2 a1 w
  have r1 := fun c => bound_run (P := P) (c := c) (y := h) e1 o1 n1 h1 a2 w
  unfold Instr.sliceBounds
  rcases r2 (if isS = true then .sliceAcap else .sliceAlen) with ⟨_, rfl, rfl⟩ | ⟨x, rfl, hx⟩ <;> rcases r1 .sliceB with ⟨_, rfl, rfl⟩ | ⟨y, rfl, hy⟩
  · simp
  · simp [hy]
  · simp [hx]
  · simp [hx, hy]

theorem bounds_run3 {blo bhi bmx : Option (Option AV)} {lo hi mx : Option Value} {l h m len cap : Nat} (isS : Bool) (e1 : bound blo 0 = some l) (e2 : bound bhi len = some h) (e3 : bound bmx 0 = some m) (hsome : bhi ≠ none) (hsome3 : bmx ≠ none)
    (o1 : ∀ v, blo = some (some v) → ∃ x, lo = some x ∧ VR μ v x) (n1 : blo = none → lo = none) (o2 : ∀ v, bhi = some (some v) → ∃ x, hi = some x ∧ VR μ v x) (n2 : bhi = none → hi = none)
    (o3 : ∀ v, bmx = some (some v) → ∃ x, mx = some x ∧ VR μ v x) (n3 : bmx = none → mx = none)
    (h1 : l ≤ h) (h2 : h ≤ m) (h3 : m ≤ cap) (w : World) : (Instr.sliceBounds isS len cap lo hi mx).run P w = .ok (l, h, m) w := by
  have a1 : bhi = none → len = h := fun q => absurd q hsome
  have a2 : blo = none → 0 = l := by intro q; rw [q] at e1; simpa [bound] using e1
  have r3 := fun c => bound_run (P := P) (c := c) (y := cap) e3 o3 n3 h3 (fun q => absurd q hsome3) w
  have r2 := fun c => bound_run (P := P) (c := c) (y := m) e2 o2 n2 h2 a1 w
  have r1 := fun c => bound_run (P := P) (c := c) (y := h) e1 o1 n1 h1 a2 w
  unfold Instr.sliceBounds
  rcases r3 (if isS = true then .slice3Acap else .slice3Alen) with ⟨q, _⟩ | ⟨z, rfl, hz⟩
  · exact absurd q hsome3
  · rcases r2 .slice3B with ⟨q, _⟩ | ⟨x, rfl, hx⟩
    · exact absurd q hsome
    · rcases r1 .slice3C with ⟨_, rfl, rfl⟩ | ⟨y, rfl, hy⟩
      · simp [hx, hz]
      · simp [hx, hy, hz]

theorem slice_sound (hR : Rep P B w0 G μ H w) {t : TypeId} {v u : AV} {x : Value} {blo bhi bmx : Option (Option AV)} {lo hi mx : Option Value} (h : sliceV P H t v blo bhi bmx = some u) (hx : VR μ v x)
    (o1 : ∀ v, blo = some (some v) → ∃ x, lo = some x ∧ VR μ v x) (n1 : blo = none → lo = none) (o2 : ∀ v, bhi = some (some v) → ∃ x, hi = some x ∧ VR μ v x) (n2 : bhi = none → hi = none)
    (o3 : ∀ v, bmx = some (some v) → ∃ x, mx = some x ∧ VR μ v x) (n3 : bmx = none → mx = none) :
    ∃ y, (Instr.sliceAt t x lo hi mx).run P w = .ok y w ∧ VR μ u y := by
  unfold sliceV at h
  split at h
  · rename_i e i o len cm ex esz hu
    obtain ⟨b, N, c, hm, rfl, hc1, hc2, hc3, hc4⟩ := hx
    split at h
    · rename_i sz l hh hs e1 e2
      have hmx := n3 rfl
      subst hmx
      cases hb : (Nat.beq sz esz && Nat.ble l hh && Nat.ble hh cm && Nat.blt l cm) with
      | true =>
        rw [hb] at h
        simp only [Bool.and_eq_true] at hb
        obtain ⟨⟨⟨b1, b2⟩, b3⟩, b4⟩ := hb
        have b1 := (beq_iff _ _).1 b1
        have b2 := Nat.le_of_ble_eq_true b2
        have b3 := Nat.le_of_ble_eq_true b3
        have b4 := (blt_iff _ _).1 b4
        subst b1
        simp only [cond_true, Option.some.injEq] at h
        subst h
        have hbd := bounds_run (P := P) true e1 e2 o1 n1 o2 n2 b2 (show hh ≤ c by omega) w
        have hne : ¬ c = l := by omega
        refine ⟨.slice (some ⟨b, o + l * sz, none⟩) (hh - l) (c - l), ?_, b, N, c - l, hm, rfl, by omega, ?_, ?_, by omega⟩
        · simp [Instr.sliceAt, Instr.slice, run_underlying hu, hbd, run_size hs, hne, add_off]
        · intro q; have := hc2 q; omega
        · have : l * sz + (c - l) * sz = c * sz := by rw [← Nat.add_mul]; congr 1; omega
          omega
      | false =>
        rw [hb] at h
        simp only [cond_false] at h
        cases hb' : (Nat.beq sz esz && Nat.beq l 0 && Nat.beq hh 0 && Nat.beq cm 0 && ex) with
        | false => rw [hb'] at h; simp at h
        | true =>
          rw [hb'] at h
          simp only [Bool.and_eq_true] at hb'
          obtain ⟨⟨⟨⟨b1, b2⟩, b3⟩, b4⟩, b5⟩ := hb'
          have b1 := (beq_iff _ _).1 b1
          have b2 := (beq_iff _ _).1 b2
          have b3 := (beq_iff _ _).1 b3
          have b4 := (beq_iff _ _).1 b4
          subst b1 b2 b3 b4
          simp only [cond_true, Option.some.injEq] at h
          subst h
          have hc0 := hc2 b5
          subst hc0
          have hbd := bounds_run (P := P) true e1 e2 o1 n1 o2 n2 (Nat.le_refl 0) (Nat.le_refl 0) w
          refine ⟨.slice (some ⟨b, o, none⟩) 0 0, ?_, b, N, 0, hm, rfl, by omega, fun _ => rfl, by omega, by omega⟩
          simp [Instr.sliceAt, Instr.slice, run_underlying hu, hbd, run_size hs]
    · rename_i sz l hh mx' hs e1 e2
      split at h
      · rename_i hi' m e3
        cases hb : (Nat.beq sz esz && Nat.ble l hh && Nat.ble hh m && Nat.ble m cm) with
        | false => rw [hb] at h; simp at h
        | true =>
          rw [hb] at h
          simp only [Bool.and_eq_true] at hb
          obtain ⟨⟨⟨b1, b2⟩, b3⟩, b4⟩ := hb
          have b1 := (beq_iff _ _).1 b1
          have b2 := Nat.le_of_ble_eq_true b2
          have b3 := Nat.le_of_ble_eq_true b3
          have b4 := Nat.le_of_ble_eq_true b4
          subst b1
          simp only [cond_true] at h
          have hbd := bounds_run3 (P := P) true e1 e2 e3 (by simp) (by simp) o1 n1 o2 n2 o3 n3 b2 b3 (show m ≤ c by omega) w
          cases hml : Nat.beq m l with
          | true =>
            rw [hml] at h
            simp only [cond_true, Option.some.injEq] at h
            have hml' := (beq_iff _ _).1 hml
            subst hml' h
            refine ⟨.slice (some ⟨b, o, none⟩) (hh - m) (m - m), ?_, b, N, m - m, hm, rfl, by omega, fun _ => rfl, by simp; omega, by omega⟩
            simp [Instr.sliceAt, Instr.slice, run_underlying hu, hbd, run_size hs]
          | false =>
            rw [hml] at h
            simp only [cond_false, Option.some.injEq] at h
            have hml' := (beq_false _ _).1 hml
            subst h
            refine ⟨.slice (some ⟨b, o + l * sz, none⟩) (hh - l) (m - l), ?_, b, N, m - l, hm, rfl, by omega, fun _ => rfl, ?_, by omega⟩
            · simp [Instr.sliceAt, Instr.slice, run_underlying hu, hbd, run_size hs, hml', add_off]
            · have : l * sz + (m - l) * sz = m * sz := by rw [← Nat.add_mul]; congr 1; omega
              have : m * sz ≤ c * sz := Nat.mul_le_mul_right _ (by omega)
              omega
      · simp at h
    · simp at h
  · rename_i e hu
    have hx' : x = .slice none 0 0 := hx
    subst hx'
    split at h
    · rename_i sz hs e1 e2
      simp at h; subst h
      have hmx := n3 rfl
      subst hmx
      have hbd := bounds_run (P := P) (len := 0) (cap := 0) true e1 e2 o1 n1 o2 n2 (Nat.le_refl 0) (Nat.le_refl 0) w
      exact ⟨.slice none 0 0, by simp [Instr.sliceAt, Instr.slice, run_underlying hu, hbd, run_size hs], rfl⟩
    · rename_i sz mx' hs e1 e2
      split at h
      · rename_i hi' e3
        simp at h; subst h
        have hbd := bounds_run3 (P := P) (len := 0) (cap := 0) true e1 e2 e3 (by simp) (by simp) o1 n1 o2 n2 o3 n3 (Nat.le_refl 0) (Nat.le_refl 0) (Nat.le_refl 0) w
        exact ⟨.slice none 0 0, by simp [Instr.sliceAt, Instr.slice, run_underlying hu, hbd, run_size hs], rfl⟩
      · simp at h
    · simp at h
  · rename_i n e i o hu
    obtain ⟨b, N, hm, rfl⟩ := hx
    split at h
    · rename_i esz l hh hs e1 e2
      have hmx := n3 rfl
      subst hmx
      split at h
      · rename_i fam ver te cs hl
        cases hb : (Nat.ble l hh && Nat.ble hh n && Nat.blt l n && Nat.ble (o + n * esz) cs.len) with
        | false => rw [hb] at h; simp at h
        | true =>
          rw [hb] at h
          simp only [Bool.and_eq_true] at hb
          obtain ⟨⟨⟨b1, b2⟩, b3⟩, b4⟩ := hb
          have b1 := Nat.le_of_ble_eq_true b1
          have b2 := Nat.le_of_ble_eq_true b2
          have b3 := (blt_iff _ _).1 b3
          have b4 := Nat.le_of_ble_eq_true b4
          simp only [cond_true, Option.some.injEq] at h
          subst h
          obtain ⟨ho, tip, lw, hf, hle⟩ := live_some hl
          obtain ⟨_, _, _, _, _, hcN, _, _⟩ := hR.cells _ _ _ _ _ _ _ _ _ ho hf hle hm
          have hbd := bounds_run (P := P) false e1 e2 o1 n1 o2 n2 b1 b2 w
          have hne : ¬ n = l := by omega
          refine ⟨.slice (some ⟨b, o + l * esz, none⟩) (hh - l) (n - l), ?_, b, N, n - l, hm, rfl, by omega, fun _ => rfl, ?_, by omega⟩
          · simp [Instr.sliceAt, Instr.sureAddr, run_underlying hu, hbd, run_size hs, hne, add_off]
          · have : l * esz + (n - l) * esz = n * esz := by rw [← Nat.add_mul]; congr 1; omega
            omega
      · simp at h
    · simp at h
  · rename_i s hu
    have hx' : x = .string s := hx
    subst hx'
    split at h
    · rename_i l hh e1 e2
      have hmx := n3 rfl
      subst hmx
      cases hb : (Nat.ble l hh && Nat.ble hh s.size) with
      | false => rw [hb] at h; simp at h
      | true =>
        rw [hb] at h
        simp only [Bool.and_eq_true] at hb
        have b1 := Nat.le_of_ble_eq_true hb.1
        have b2 := Nat.le_of_ble_eq_true hb.2
        simp only [cond_true, Option.some.injEq] at h
        subst h
        have hbd := bounds_run (P := P) false e1 e2 o1 n1 o2 n2 b1 b2 w
        exact ⟨.string (s.extract l hh), by simp [Instr.sliceAt, Instr.slice, run_underlying hu, hbd], rfl⟩
    · simp at h
  · simp at h

/-! ### Building -/
theorem zip_set (cs : List Value) : ∀ (off : Nat) (cells : Array Value), off + cs.length ≤ cells.size →
    ((cs.zipIdx).foldl (fun (acc : Array Value) (p : Value × Nat) => acc.setIfInBounds (off + p.2) p.1) cells).toList = cells.toList.take off ++ cs ++ cells.toList.drop (off + cs.length) := by
  have key : ∀ (cs : List Value) (s off : Nat) (cells : Array Value), off + s + cs.length ≤ cells.size →
      ((cs.zipIdx s).foldl (fun (acc : Array Value) (p : Value × Nat) => acc.setIfInBounds (off + p.2) p.1) cells).toList = cells.toList.take (off + s) ++ cs ++ cells.toList.drop (off + s + cs.length) := by
    intro cs
    induction cs with
    | nil => intro s off cells h; simp
    | cons c r ih =>
      intro s off cells h
      rw [List.zipIdx_cons, List.foldl_cons, ih (s + 1) off _ (by simp at h ⊢; omega)]
      simp only [Array.toList_setIfInBounds, List.length_cons] at h ⊢
      have hl : off + s < cells.toList.length := by simp; omega
      rw [show off + (s + 1) = off + s + 1 from by omega]
      generalize off + s = k at *
      rw [List.set_eq_take_append_cons_drop, if_pos hl]
      have e1 : (cells.toList.take k).length = k := by simp; omega
      have e2 : (cells.toList.take k ++ c :: cells.toList.drop (k + 1)).take (k + 1) = cells.toList.take k ++ [c] := by
        rw [List.take_append, e1, List.take_of_length_le (by omega), Nat.add_sub_cancel_left]; rfl
      have e3 : (cells.toList.take k ++ c :: cells.toList.drop (k + 1)).drop (k + 1 + r.length) = cells.toList.drop (k + (r.length + 1)) := by
        rw [List.drop_append, e1, List.drop_eq_nil_of_le (by omega), show k + 1 + r.length - k = r.length + 1 from by omega, List.drop_succ_cons, List.drop_drop, List.nil_append]
        congr 1; omega
      rw [e2, e3]; simp
  intro off cells h
  have := key cs 0 off cells (by omega)
  simpa using this

theorem fill_sound {ρ : Env} {ρc : Operand → Value} {pl : Nat → Option (Nat × Nat)} : ∀ (ps : List (Nat × Operand)) (cs out : AV) (cells : Array Value),
    (∀ p ∈ ps, ∀ v, ρ p.2 = some v → VR μ v (ρc p.2)) → LR μ cs cells.toList → fillParts pl ρ cs ps = some out →
    ∃ cells', Instr.fill pl cells (ps.map fun (p : Nat × Operand) => (p.1, ρc p.2)) = some cells' ∧ LR μ out cells'.toList := by
  intro ps
  induction ps with
  | nil => intro cs out cells _ hL h; simp [fillParts] at h; subst h; exact ⟨cells, rfl, hL⟩
  | cons p r ih =>
    obtain ⟨i, x⟩ := p
    intro cs out cells hρ hL h
    simp only [fillParts] at h
    split at h
    · rename_i off n v hp hx
      cases hb : Nat.beq v.cells.len n with
      | false => rw [hb] at h; simp at h
      | true =>
        rw [hb] at h
        have hb := (beq_iff _ _).1 hb
        simp only [cond_true] at h
        split at h
        · rename_i cs' hput
          have hv := (hρ (i, x) (by simp) v hx).cells
          obtain ⟨h1, h2⟩ := LR.put hL hv hput
          have hlen := hv.len
          have hsz : (ρc x).cells.size = n := by rw [← Array.length_toList, hlen, hb]
          have hz := zip_set (ρc x).cells.toList off cells (by simpa using h1)
          have e0 : ((ρc x).cells.zipIdx.foldl (fun cs (q : Value × Nat) => cs.setIfInBounds (off + q.2) q.1) cells).toList = cells.toList.take off ++ (ρc x).cells.toList ++ cells.toList.drop (off + (ρc x).cells.toList.length) := by
            rw [← hz, ← Array.foldl_toList, Array.toList_zipIdx]
          obtain ⟨cells', h3, h4⟩ := ih cs' out _ (fun q hq => hρ q (by simp [hq])) (by rw [e0]; exact h2) h
          refine ⟨cells', ?_, h4⟩
          simp only [List.map_cons, Instr.fill, hp]
          rw [if_neg ?_]
          · exact h3
          · simp only [Bool.or_eq_true, decide_eq_true_eq]
            rintro (q | q)
            · exact q hsz
            · simp at h1; omega
        · simp at h
    · simp at h

end
end Go.Eng
