/-
  The abstract machine with opaque values, calls that are told, and a run by a script.
  Conditions: none.
-/
import Derived.Test.YtoamcgjbelhnkaaGreatDoorEngY

namespace Go.Eng
open Go.RowKit

/-- How an opaque value is laid: one cell, a string, a struct of so many cells. -/
inductive Sh where
  | one
  | str
  | agg (n : Nat)

def hcs (i : Nat) : Nat → Nat → AV
  | _, 0 => .nil
  | k, n + 1 => .cons (.hc i k) (hcs i (k + 1) n)
def wh (s : Sh) (i : Nat) : AV :=
  match s with
  | .one => .hc i 0
  | .str => .hs i
  | .agg n => .agg (hcs i 0 n)
def ShOK (s : Sh) (v : Value) : Prop :=
  match s with
  | .one => v.oneCell' = true
  | .str => ∃ s, v = .string s
  | .agg n => ∃ xs : Array Value, v = .agg xs ∧ xs.size = n ∧ ∀ x ∈ xs.toList, x.oneCell' = true

theorem hcs_LR {μ : Mu} {i : Nat} {xs : List Value} (hm : ∃ v, μ.hd i = some v ∧ v.cells.toList = xs) (h1 : ∀ x ∈ xs, x.oneCell' = true) : ∀ (n k : Nat), k + n = xs.length → LR μ (hcs i k n) (xs.drop k)
  | 0, k, h => by rw [List.drop_eq_nil_of_le (by omega)]; rfl
  | n + 1, k, h => by
    have hk : k < xs.length := by omega
    rw [List.drop_eq_getElem_cons hk]
    obtain ⟨v, hv, hc⟩ := hm
    refine LR.cons ⟨v, hv, ?_, h1 _ (List.getElem_mem hk)⟩ (hcs_LR ⟨v, hv, hc⟩ h1 n (k + 1) (by omega))
    rw [← Array.getElem?_toList, hc, List.getElem?_eq_getElem hk]
theorem wh_VR {μ : Mu} {i : Nat} {s : Sh} {v : Value} (hm : μ.hd i = some v) (h : ShOK s v) : VR μ (wh s i) v := by
  cases s with
  | one =>
    have e : v.cells = #[v] := by cases v <;> first | rfl | simp [ShOK, Value.oneCell'] at h
    exact ⟨v, hm, by rw [e]; rfl, h⟩
  | str => obtain ⟨s, rfl⟩ := h; exact ⟨s, hm, rfl⟩
  | agg n =>
    obtain ⟨xs, rfl, hn, h1⟩ := h
    refine ⟨xs, rfl, ?_⟩
    have := hcs_LR (μ := μ) (i := i) (xs := xs.toList) ⟨_, hm, rfl⟩ h1 n 0 (by simpa using hn.symm)
    rw [List.drop_zero] at this
    exact this
theorem hcs_det {μ : Mu} {i : Nat} {v : Value} (hm : μ.hd i = some v) : ∀ (n k : Nat) (ys : List Value), k + n = v.cells.size → LR μ (hcs i k n) ys → ys = v.cells.toList.drop k
  | 0, k, ys, h, hy => by
    have : ys = [] := hy
    rw [this, List.drop_eq_nil_of_le (by simp; omega)]
  | n + 1, k, ys, h, hy => by
    obtain ⟨y, r, rfl, h1, h2⟩ := hy
    have hk : k < v.cells.toList.length := by simp; omega
    rw [List.drop_eq_getElem_cons hk, hcs_det hm n (k + 1) r (by omega) h2]
    obtain ⟨v', h3, h4, h5⟩ := h1
    rw [hm] at h3; cases h3
    congr 1
    have : v.cells.toList[k]? = some y := by simpa using h4
    rw [List.getElem?_eq_getElem hk] at this
    exact (Option.some.inj this).symm
theorem wh_det {μ : Mu} {i : Nat} {s : Sh} {v x : Value} (hm : μ.hd i = some v) (h : ShOK s v) (hx : VR μ (wh s i) x) : x = v := by
  cases s with
  | one =>
    have e : v.cells = #[v] := by cases v <;> first | rfl | simp [ShOK, Value.oneCell'] at h
    obtain ⟨v', h1, h2, h3⟩ := hx
    rw [hm] at h1; cases h1
    rw [e] at h2
    exact (Option.some.inj h2).symm
  | str =>
    obtain ⟨s, h1, rfl⟩ := hx
    rw [hm] at h1; cases h1; rfl
  | agg n =>
    obtain ⟨xs, rfl, hn, h1⟩ := h
    obtain ⟨ys, rfl, h2⟩ := hx
    have := hcs_det hm n 0 ys.toList (by rw [Nat.zero_add, ← hn]; rfl) h2
    rw [List.drop_zero] at this
    have : ys = xs := Array.toList_inj.1 this
    rw [this]

/-- Pieces of what is handed on: an opaque value, a value without addresses, a struct of such cells; and lists of pieces. -/
inductive AT where
  | tag (t : Tg)
  | val (v : AV)
  | agg (cs : AT)
  | fn (f : FuncId) (fs cs : AT)
  | nil
  | cons (h t : AT)

def handleOf : AV → Option Nat
  | .hc i _ => some i
  | .hs i => some i
  | .agg (.cons (.hc i _) _) => some i
  | _ => none
def tagOf (cls : Tg → Sh) (H : AH) (a : AV) : Option Tg :=
  match handleOf a with
  | some i => match H.objs.get i with
    | some (.opq t) => bif a.beq (wh (cls t) i) then some t else none
    | _ => none
  | none => none
def atOne (cls : Tg → Sh) (H : AH) (a : AV) : Option AT :=
  match tagOf cls H a with
  | some t => some (.tag t)
  | none => match a.closed with
    | some _ => some (.val a)
    | none => none
/-- A value's piece; a list's pieces. -/
def atOf (cls : Tg → Sh) (H : AH) : AV → Option AT × Option AT
  | .nil => (none, some .nil)
  | .cons a r => (none, match (atOf cls H a).1, (atOf cls H r).2 with
    | some t, some ts => some (.cons t ts)
    | _, _ => none)
  | .agg cs => (match tagOf cls H (.agg cs) with
    | some t => some (.tag t)
    | none => match (AV.agg cs).closed with
      | some _ => some (.val (.agg cs))
      | none => match (atOf cls H cs).2 with
        | some ts => some (.agg ts)
        | none => none, none)
  | .fn f fs cs => (match (atOf cls H fs).2, (atOf cls H cs).2 with
    | some t, some ts => some (.fn f t ts)
    | _, _ => none, none)
  | a => (atOne cls H a, none)
theorem Tg.eq_of_beq {a : Tg} : ∀ {b : Tg}, a.beq b = true → a = b := by
  induction a with
  | leaf n => intro b h; cases b <;> simp [Tg.beq] at h; rw [h]
  | un k a ih => intro b h; cases b <;> simp [Tg.beq] at h; rw [h.1, ih h.2]
  | bin k a b ih1 ih2 => intro c h; cases c <;> simp [Tg.beq] at h; rw [h.1.1, ih1 h.1.2, ih2 h.2]
/-- An opaque value that is there already. -/
def isTag (H : AH) (t : Tg) (i : Nat) : Bool :=
  match H.objs.get i with
  | some (.opq t') => t'.beq t
  | _ => false
theorem isTag_get {H : AH} {t : Tg} {i : Nat} (h : isTag H t i = true) : H.objs.get i = some (.opq t) := by
  unfold isTag at h
  split at h
  · rename_i t' e
    rw [Tg.eq_of_beq h] at e
    exact e
  · cases h
def findTag (H : AH) (t : Tg) : Nat → Option Nat
  | 0 => none
  | n + 1 => bif isTag H t n then some n else findTag H t n
theorem findTag_get {H : AH} {t : Tg} {i : Nat} : ∀ {n : Nat}, findTag H t n = some i → H.objs.get i = some (.opq t)
  | 0, h => by cases h
  | n + 1, h => by
    unfold findTag at h
    cases e : isTag H t n with
    | true =>
      rw [e] at h
      cases h
      exact isTag_get e
    | false =>
      rw [e] at h
      exact findTag_get h
/-- A string that is there already is not laid anew. -/
def knownTag (cls : Tg → Sh) (H : AH) (t : Tg) : Option Nat :=
  match cls t with
  | .str => findTag H t H.next
  | _ => none
def layAT {β : Type} (cls : Tg → Sh) : AT → AH → (AV → AH → β) → β
  | .tag t, H, k => match knownTag cls H t with
    | some i => k (wh (cls t) i) H
    | none => H.newObj (.opq t) fun i H => k (wh (cls t) i) H
  | .val v, H, k => k v H
  | .agg cs, H, k => layAT cls cs H fun vs H => k (.agg vs) H
  | .fn f fs cs, H, k => layAT cls fs H fun us H => layAT cls cs H fun vs H => k (.fn f us vs) H
  | .nil, H, k => k .nil H
  | .cons a r, H, k => layAT cls a H fun v H => layAT cls r H fun vs H => k (.cons v vs) H
def packAV : AV → AV
  | .cons v .nil => v
  | vs => .tup vs
def oracle (cls : Tg → Sh) (T : FuncId → AT → Option AT) (f : FuncId) (args : AV) (H : AH) : Option (AV × AH) :=
  match (atOf cls H args).2 with
  | some ts => match T f ts with
    | some rs => layAT cls rs H fun vs H => some (packAV vs, H)
    | none => none
  | none => none

section
variable {P : Program} {B : Nat} {w0 : World} {G : Sett}

/-- What pieces say of a value; of a list of values. -/
def PC (G : Sett) (w : World) : AT → (Value → Prop) × (List Value → Prop)
  | .tag t => (fun x => G.I t x w, fun _ => False)
  | .val v => (fun x => v.closed = some x, fun _ => False)
  | .agg cs => (fun x => ∃ xs : Array Value, x = .agg xs ∧ (PC G w cs).2 xs.toList, fun _ => False)
  | .fn f fs cs => (fun x => ∃ xs ys : Array Value, x = .func (.func f) xs ys ∧ (PC G w fs).2 xs.toList ∧ (PC G w cs).2 ys.toList, fun _ => False)
  | .nil => (fun _ => False, fun xs => xs = [])
  | .cons h t => (fun _ => False, fun xs => ∃ x r, xs = x :: r ∧ (PC G w h).1 x ∧ (PC G w t).2 r)
def PieceOK (G : Sett) (t : AT) (x : Value) (w : World) : Prop := (PC G w t).1 x
def PiecesOK (G : Sett) (t : AT) (xs : List Value) (w : World) : Prop := (PC G w t).2 xs
def PackOK (G : Sett) (ts : AT) (x : Value) (w : World) : Prop :=
  match ts with
  | .cons t .nil => PieceOK G t x w
  | ts => ∃ xs : Array Value, x = .tuple xs ∧ PiecesOK G ts xs.toList w

structure Shaped (G : Sett) (cls : Tg → Sh) : Prop where
  ok : ∀ t v w, G.I t v w → ShOK (cls t) v
  det : ∀ t, cls t = .str → ∀ v v' w, G.I t v w → G.I t v' w → v = v'

theorem scCells_LR (μ : Mu) : ∀ {v : AV} {l : List Value}, scCells v = some l → LR μ v l
  | .nil, l, h => by simp [scCells] at h; subst h; rfl
  | .cons (.sc s) t, l, h => by
    simp only [scCells, Option.map_eq_some_iff] at h
    obtain ⟨r, h1, rfl⟩ := h
    exact LR.cons rfl (scCells_LR μ h1)
theorem closed_VR (μ : Mu) {v : AV} {x : Value} (h : v.closed = some x) : VR μ v x := by
  unfold AV.closed at h
  split at h
  · cases h; rfl
  · simp only [Option.map_eq_some_iff] at h
    obtain ⟨l, h1, rfl⟩ := h
    exact ⟨l.toArray, rfl, scCells_LR μ h1⟩
  · cases h
theorem closed_det {μ : Mu} {v : AV} {x y : Value} (h : v.closed = some x) (hy : VR μ v y) : y = x := by
  unfold AV.closed at h
  split at h
  · cases h; exact hy
  · simp only [Option.map_eq_some_iff] at h
    obtain ⟨l, h1, rfl⟩ := h
    obtain ⟨ys, rfl, h2⟩ := hy
    have := LR.det h1 h2
    congr 1
    exact Array.toList_inj.1 (by simpa using this)
  · cases h

theorem tagOf_sound {cls : Tg → Sh} (hs : Shaped G cls) {μ : Mu} {H : AH} {w : World} (h : Rep P B w0 G μ H w) {a : AV} {t : Tg} (ht : tagOf cls H a = some t) {x : Value} (hx : VR μ a x) : G.I t x w := by
  unfold tagOf at ht
  split at ht
  · rename_i i hi
    split at ht
    · rename_i t' ho
      cases hb : a.beq (wh (cls t') i) with
      | false => rw [hb] at ht; cases ht
      | true =>
        rw [hb] at ht
        cases ht
        have := AV.beq_eq hb
        subst this
        obtain ⟨v, h1, h2⟩ := h.fact _ _ ho
        rw [wh_det h1 (hs.ok _ _ _ h2) hx]
        exact h2
    · cases ht
  · cases ht
theorem atOf_sound {cls : Tg → Sh} (hs : Shaped G cls) {μ : Mu} {H : AH} {w : World} (h : Rep P B w0 G μ H w) (a : AV) : (∀ t, (atOf cls H a).1 = some t → ∀ x, VR μ a x → PieceOK G t x w) ∧ (∀ t, (atOf cls H a).2 = some t → ∀ xs, LR μ a xs → PiecesOK G t xs w) := by
  have one : ∀ {a : AV} {t : AT}, atOne cls H a = some t → ∀ x, VR μ a x → PieceOK G t x w := by
    intro a t ht x hx
    unfold atOne at ht
    split at ht
    · rename_i t' h1
      cases ht
      exact tagOf_sound hs h h1 hx
    · split at ht
      · rename_i c hc
        cases ht
        rw [closed_det hc hx]
        exact hc
      · cases ht
  induction a with
  | nil => exact ⟨fun t q => (by cases q), fun t q xs hx => (by cases q; exact hx)⟩
  | cons a r ih1 ih2 =>
    refine ⟨fun t q => (by cases q), fun t q xs hx => ?_⟩
    simp only [atOf] at q
    split at q
    · rename_i t' ts' h1 h2
      cases q
      obtain ⟨x, r', rfl, h3, h4⟩ := hx
      exact ⟨x, r', rfl, ih1.1 _ h1 _ h3, ih2.2 _ h2 _ h4⟩
    · cases q
  | agg cs ih =>
    refine ⟨fun t q x hx => ?_, fun t q => (by cases q)⟩
    simp only [atOf] at q
    split at q
    · rename_i t' h1
      cases q
      exact tagOf_sound hs h h1 hx
    · split at q
      · rename_i c hc
        cases q
        rw [closed_det hc hx]
        exact hc
      · split at q
        · rename_i ts hts
          cases q
          obtain ⟨xs, rfl, h2⟩ := hx
          exact ⟨xs, rfl, ih.2 _ hts _ h2⟩
        · cases q
  | fn f fs cs ih1 ih2 =>
    refine ⟨fun t q x hx => ?_, fun t q => (by cases q)⟩
    simp only [atOf] at q
    split at q
    · rename_i t' ts' h1 h2
      cases q
      obtain ⟨xs, ys, rfl, h3, h4⟩ := hx
      exact ⟨xs, ys, rfl, ih1.2 _ h1 _ h3, ih2.2 _ h2 _ h4⟩
    · cases q
  | _ => exact ⟨fun t q x hx => (by simp only [atOf] at q; exact one q x hx), fun t q => (by simp only [atOf] at q; cases q)⟩

/-- Pieces are laid: the machine has them as the model has. -/
theorem lay_rep {cls : Tg → Sh} (hs : Shaped G cls) {β : Type} {w : World} (ts : AT) : ∀ (μ : Mu) (H : AH) (k : AV → AH → Option β) (r : β), Rep P B w0 G μ H w → layAT cls ts H k = some r →
    (∀ x, PieceOK G ts x w → ∃ v μ' H', k v H' = some r ∧ Rep P B w0 G μ' H' w ∧ Ext H μ H' μ' ∧ VR μ' v x) ∧ (∀ xs, PiecesOK G ts xs w → ∃ vs μ' H', k vs H' = some r ∧ Rep P B w0 G μ' H' w ∧ Ext H μ H' μ' ∧ LR μ' vs xs) := by
  induction ts with
  | tag t =>
    intro μ H k r h hl
    refine ⟨fun x hp => ?_, fun xs hp => hp.elim⟩
    simp only [layAT, newObj_eq] at hl
    split at hl
    · rename_i i hkn
      have hc : cls t = .str ∧ findTag H t H.next = some i := by
        unfold knownTag at hkn
        split at hkn
        · rename_i e; exact ⟨e, hkn⟩
        · cases hkn
      obtain ⟨v, h1, h2⟩ := h.fact _ _ (findTag_get hc.2)
      have : v = x := hs.det t hc.1 _ _ _ h2 hp
      subst this
      exact ⟨_, μ, H, hl, h, .refl H μ, wh_VR h1 (hs.ok _ _ _ hp)⟩
    · obtain ⟨g1, g2, g3⟩ := h.hold (t := t) (v := x) hp
      exact ⟨_, _, _, hl, g1, g2, wh_VR g3 (hs.ok _ _ _ hp)⟩
  | val v =>
    intro μ H k r h hl
    exact ⟨fun x hp => ⟨v, μ, H, hl, h, .refl H μ, closed_VR _ hp⟩, fun xs hp => hp.elim⟩
  | agg cs ih =>
    intro μ H k r h hl
    refine ⟨fun x hp => ?_, fun xs hp => hp.elim⟩
    obtain ⟨xs, rfl, hp⟩ := hp
    simp only [layAT] at hl
    obtain ⟨vs, μ', H', k1, k2, k3, k4⟩ := (ih μ H _ r h hl).2 _ hp
    exact ⟨_, μ', H', k1, k2, k3, xs, rfl, k4⟩
  | fn f fs cs ih1 ih2 =>
    intro μ H k r h hl
    refine ⟨fun x hp => ?_, fun xs hp => hp.elim⟩
    obtain ⟨xs, ys, rfl, h1, h2⟩ := hp
    simp only [layAT] at hl
    obtain ⟨us, μ1, H1, k1, k2, k3, k4⟩ := (ih1 μ H _ r h hl).2 _ h1
    obtain ⟨vs, μ2, H2, l1, l2, l3, l4⟩ := (ih2 μ1 H1 _ r k2 k1).2 _ h2
    exact ⟨_, μ2, H2, l1, l2, k3.trans l3, xs, ys, rfl, k4.mono l3.1, l4⟩
  | nil =>
    intro μ H k r h hl
    exact ⟨fun x hp => hp.elim, fun xs hp => ⟨.nil, μ, H, hl, h, .refl H μ, hp⟩⟩
  | cons a b ih1 ih2 =>
    intro μ H k r h hl
    refine ⟨fun x hp => hp.elim, fun xs hp => ?_⟩
    obtain ⟨x, r', rfl, h1, h2⟩ := hp
    simp only [layAT] at hl
    obtain ⟨v, μ1, H1, k1, k2, k3, k4⟩ := (ih1 μ H _ r h hl).1 _ h1
    obtain ⟨vs, μ2, H2, l1, l2, l3, l4⟩ := (ih2 μ1 H1 _ r k2 k1).2 _ h2
    exact ⟨_, μ2, H2, l1, l2, k3.trans l3, LR.cons (k4.mono l3.1) l4⟩

/-- What is told of calls is true. -/
def ToldT (P : Program) (G : Sett) (T : FuncId → AT → Option AT) : Prop :=
  ∀ f ts rs, T f ts = some rs → (∃ fn : Func, P.funcs[f]? = some fn ∧ fn.body.isSome = true) ∧
    ∀ w (xs : Array Value), PiecesOK G ts xs.toList w → Calls P f xs w fun e w' => ∃ x, e = .returned x ∧ PackOK G rs x w' ∧ Below w.heap.size w w'

/-- The same for the worlds behind one. -/
def ToldIn (P : Program) (B : Nat) (w0 : World) (G : Sett) (T : FuncId → AT → Option AT) : Prop :=
  ∀ f ts rs, T f ts = some rs → (∃ fn : Func, P.funcs[f]? = some fn ∧ fn.body.isSome = true) ∧
    ∀ w (xs : Array Value), Below B w0 w → PiecesOK G ts xs.toList w → Calls P f xs w fun e w' => ∃ x, e = .returned x ∧ PackOK G rs x w' ∧ Below w.heap.size w w'
theorem ToldT.inn {T : FuncId → AT → Option AT} (h : ToldT P G T) : ToldIn P B w0 G T := fun f ts rs q => ⟨(h f ts rs q).1, fun w xs _ hx => (h f ts rs q).2 w xs hx⟩

theorem pieces_len {w : World} {ts : AT} : ∀ {xs ys : List Value}, PiecesOK G ts xs w → PiecesOK G ts ys w → xs.length = ys.length := by
  induction ts with
  | nil => intro xs ys h1 h2; have h1 : xs = [] := h1; have h2 : ys = [] := h2; rw [h1, h2]
  | cons a b _ ih =>
    rintro xs ys ⟨x, r, rfl, _, h1⟩ ⟨y, s, rfl, _, h2⟩
    simp [ih h1 h2]
  | _ => intro xs ys h; exact h.elim

theorem pack_VR {cls : Tg → Sh} (hs : Shaped G cls) {β : Type} {w : World} {rs : AT} {x : Value} {μ : Mu} {H : AH} {k : AV → AH → Option β} {r : β} (h : Rep P B w0 G μ H w) (hp : PackOK G rs x w) (hl : layAT cls rs H (fun vs H => k (packAV vs) H) = some r) :
    ∃ v μ' H', k v H' = some r ∧ Rep P B w0 G μ' H' w ∧ Ext H μ H' μ' ∧ VR μ' v x := by
  have many : (∃ xs : Array Value, x = .tuple xs ∧ PiecesOK G rs xs.toList w) → (∀ t, rs ≠ .cons t .nil) → ∃ v μ' H', k v H' = some r ∧ Rep P B w0 G μ' H' w ∧ Ext H μ H' μ' ∧ VR μ' v x := by
    rintro ⟨xs, rfl, hpp⟩ hn
    clear hp
    obtain ⟨vs, μ', H', k1, k2, k3, k4⟩ := (lay_rep hs rs μ H _ r h hl).2 xs.toList hpp
    refine ⟨_, μ', H', k1, k2, k3, ?_⟩
    have : packAV vs = .tup vs := by
      unfold packAV
      split
      · rename_i v
        obtain ⟨x, r', e, _, h2⟩ := k4
        have h2 : r' = [] := h2
        subst h2
        cases rs with
        | cons a b =>
          obtain ⟨y, s, e2, _, h3⟩ := hpp
          rw [e] at e2
          cases e2
          cases b with
          | nil => exact absurd rfl (hn a)
          | cons _ _ => obtain ⟨_, _, q, _⟩ := h3; cases q
          | _ => exact h3.elim
        | nil => have : xs.toList = [] := hpp; rw [this] at e; cases e
        | _ => exact hpp.elim
      · rfl
    rw [this]
    exact ⟨xs, rfl, k4⟩
  unfold PackOK at hp
  split at hp
  · rename_i t
    obtain ⟨vs, μ', H', k1, k2, k3, k4⟩ := (lay_rep hs (.cons t .nil) μ H _ r h hl).2 [x] ⟨x, [], rfl, hp, rfl⟩
    obtain ⟨y, r', e, h1, h2⟩ : ∃ y r', vs = .cons y r' ∧ VR μ' y x ∧ LR μ' r' [] := by
      cases vs with
      | cons y r' => obtain ⟨x', r2, e, h1, h2⟩ := k4; cases e; exact ⟨y, r', rfl, h1, h2⟩
      | nil => have : [x] = [] := k4; cases this
      | _ => exact k4.elim
    have hr : r' = .nil := by
      cases r' with
      | nil => rfl
      | cons a b => obtain ⟨_, _, e2, _⟩ := h2; cases e2
      | _ => exact h2.elim
    subst e; subst hr
    exact ⟨y, μ', H', k1, k2, k3, h1⟩
  · rename_i hne
    exact many hp (fun t e => hne t e)

theorem oracle_ok {cls : Tg → Sh} (hs : Shaped G cls) {T : FuncId → AT → Option AT} (hT : ToldIn P B w0 G T) : CallsOK P B w0 G (oracle cls T) := by
  intro f args H v H' ho
  unfold oracle at ho
  split at ho
  · rename_i ts hts
    split at ho
    · rename_i rs hrs
      obtain ⟨h1, h2⟩ := hT _ _ _ hrs
      refine ⟨h1, fun μ w xs hrep hxs => callsIn_wide.2 ((h2 w xs hrep.below ((atOf_sound hs hrep args).2 _ hts _ hxs)).mono ?_)⟩
      rintro e w' ⟨x, rfl, hp, hb⟩
      obtain ⟨v', μ', H2, k1, k2, k3, k4⟩ := pack_VR hs (k := fun v H => some (v, H)) (hrep.onto hb) hp ho
      cases k1
      exact ⟨x, μ', rfl, k3, k4, k2⟩
    · cases ho
  · cases ho

/-- A function is run on pieces. -/
def runF (P : Program) (cls : Tg → Sh) (T : FuncId → AT → Option AT) (res : List TypeId) (D : List FuncId) (n : Nat) (f : FuncId) (ts : AT) : Option AT :=
  layAT cls ts (bare res) fun args H => match (cb P [] (oracle cls T) D n).call f args H with
    | some (.tup vs, H') => (match (atOf cls H' vs).2 with | some (.cons _ .nil) => none | r => r)
    | some (v, H') => (atOf cls H' (.cons v .nil)).2
    | none => none

theorem run_soundW (hm : P.follows .mixedOrders = true) (hN : NamesOK P) {cls : Tg → Sh} (hs : Shaped G cls) (hids : G.ids = []) {T : FuncId → AT → Option AT} {w : World} (hT : ToldIn P w.heap.size w G T) {D : List FuncId} (hD : ∀ g ∈ D, StillFn P g) {n : Nat} {f : FuncId} {ts rs : AT}
    (h : runF P cls T G.res D n f ts = some rs) {xs : Array Value} (hx : PiecesOK G ts xs.toList w) :
    Calls P f xs w fun e w' => ∃ x, e = .returned x ∧ PackOK G rs x w' ∧ Below w.heap.size w w' := by
  unfold runF at h
  obtain ⟨vs, μ', H', k1, k2, k3, k4⟩ := (lay_rep hs ts _ _ _ _ (bare_rep hids w) h).2 _ hx
  split at k1
  · rename_i us H2 hcall
    refine (calls_of_run (G := G) hm hN (oracle_ok hs hT) hD (by rw [hids]; exact hcall) k2 k4).mono ?_
    rintro e w' ⟨x, μ2, rfl, _, hv, hrep⟩
    obtain ⟨ys, rfl, hy⟩ := hv
    refine ⟨_, rfl, ?_, hrep.below⟩
    split at k1
    · cases k1
    · rename_i hne
      have hp := (atOf_sound hs hrep us).2 _ k1 _ hy
      unfold PackOK
      split
      · rename_i t
        exact absurd k1 (hne t)
      · exact ⟨ys, rfl, hp⟩
  · rename_i u H2 hne hcall
    refine (calls_of_run (G := G) hm hN (oracle_ok hs hT) hD (by rw [hids]; exact hcall) k2 k4).mono ?_
    rintro e w' ⟨x, μ2, rfl, _, hv, hrep⟩
    have hp := (atOf_sound hs hrep (.cons u .nil)).2 _ k1 _ (LR.cons hv LR.nil)
    refine ⟨_, rfl, ?_, hrep.below⟩
    cases rs with
    | cons a b =>
      obtain ⟨y, s, e2, h1, h3⟩ := hp
      cases e2
      cases b with
      | nil => exact h1
      | cons _ _ => obtain ⟨_, _, q, _⟩ := h3; cases q
      | _ => exact h3.elim
    | nil => cases hp
    | _ => exact hp.elim
  · cases k1
theorem run_sound (hm : P.follows .mixedOrders = true) (hN : NamesOK P) {cls : Tg → Sh} (hs : Shaped G cls) (hids : G.ids = []) {T : FuncId → AT → Option AT} (hT : ToldT P G T) {D : List FuncId} (hD : ∀ g ∈ D, StillFn P g) {n : Nat} {f : FuncId} {ts rs : AT}
    (h : runF P cls T G.res D n f ts = some rs) {w : World} {xs : Array Value} (hx : PiecesOK G ts xs.toList w) :
    Calls P f xs w fun e w' => ∃ x, e = .returned x ∧ PackOK G rs x w' ∧ Below w.heap.size w w' :=
  run_soundW hm hN hs hids hT.inn hD h hx

end
end Go.Eng

namespace Go.Eng
open Go.RowKit

abbrev TTab := FuncId → AT → Option AT
def TTab.or (T U : TTab) : TTab := fun f ts => match T f ts with | some r => some r | none => U f ts
def t1 (g : FuncId) (A : AT → Option Tg) (cond : Tg → Bool) (R : Tg → AT) : TTab := fun f ts =>
  bif Nat.beq f g then
    match ts with
    | .cons a .nil => match A a with
      | some x => bif cond x then some (R x) else none
      | none => none
    | _ => none
  else none
def t2 (g : FuncId) (A C : AT → Option Tg) (cond : Tg → Tg → Bool) (R : Tg → Tg → AT) : TTab := fun f ts =>
  bif Nat.beq f g then
    match ts with
    | .cons a (.cons c .nil) => match A a, C c with
      | some x, some y => bif cond x y then some (R x y) else none
      | _, _ => none
    | _ => none
  else none

section
variable {P : Program} {G : Sett}

theorem ToldT.or {T U : TTab} (h : ToldT P G T) (k : ToldT P G U) : ToldT P G (T.or U) := by
  intro f ts rs q
  unfold TTab.or at q
  split at q
  · rename_i r hr
    cases q
    exact h _ _ _ hr
  · exact k _ _ _ q
theorem told_none : ToldT P G (fun _ _ => none) := fun _ _ _ q => by cases q

def HasBody (P : Program) (g : FuncId) : Prop := ∃ fn : Func, P.funcs[g]? = some fn ∧ fn.body.isSome = true

theorem told_t1 {g : FuncId} {A : AT → Option Tg} {cond : Tg → Bool} {R : Tg → AT} (hb : HasBody P g) (M : Tg → Value → World → Prop) (hA : ∀ a x, A a = some x → ∀ v w, PieceOK G a v w → M x v w)
    (h : ∀ x, cond x = true → ∀ w v, M x v w → Calls P g #[v] w fun e w' => ∃ r, e = .returned r ∧ PackOK G (R x) r w' ∧ Below w.heap.size w w') : ToldT P G (t1 g A cond R) := by
  intro f ts rs q
  unfold t1 at q
  cases hf : Nat.beq f g with
  | false => rw [hf] at q; cases q
  | true =>
    rw [hf] at q
    have hf := (beq_iff _ _).1 hf
    subst hf
    refine ⟨hb, fun w xs hx => ?_⟩
    simp only [cond_true] at q
    split at q
    · rename_i a
      split at q
      · rename_i x hxa
        cases hc : cond x with
        | false => rw [hc] at q; cases q
        | true =>
          rw [hc] at q
          cases q
          obtain ⟨v, r, e, h1, h2⟩ := hx
          have h2 : r = [] := h2
          subst h2
          have e' : xs = #[v] := Array.toList_inj.1 (by simpa using e)
          subst e'
          exact h x hc w v (hA _ _ hxa _ _ h1)
      · cases q
    · cases q

theorem told_t2 {g : FuncId} {A C : AT → Option Tg} {cond : Tg → Tg → Bool} {R : Tg → Tg → AT} (hb : HasBody P g) (M N : Tg → Value → World → Prop) (hA : ∀ a x, A a = some x → ∀ v w, PieceOK G a v w → M x v w) (hC : ∀ a x, C a = some x → ∀ v w, PieceOK G a v w → N x v w)
    (h : ∀ x y, cond x y = true → ∀ w v u, M x v w → N y u w → Calls P g #[v, u] w fun e w' => ∃ r, e = .returned r ∧ PackOK G (R x y) r w' ∧ Below w.heap.size w w') : ToldT P G (t2 g A C cond R) := by
  intro f ts rs q
  unfold t2 at q
  cases hf : Nat.beq f g with
  | false => rw [hf] at q; cases q
  | true =>
    rw [hf] at q
    have hf := (beq_iff _ _).1 hf
    subst hf
    refine ⟨hb, fun w xs hx => ?_⟩
    simp only [cond_true] at q
    split at q
    · rename_i a c
      split at q
      · rename_i x y hxa hyc
        cases hc : cond x y with
        | false => rw [hc] at q; cases q
        | true =>
          rw [hc] at q
          cases q
          obtain ⟨v, r, e, h1, u, r2, e2, h3, h4⟩ := hx
          subst e2
          have h4 : r2 = [] := h4
          subst h4
          have e' : xs = #[v, u] := Array.toList_inj.1 (by simpa using e)
          subst e'
          exact h x y hc w v u (hA _ _ hxa _ _ h1) (hC _ _ hyc _ _ h3)
      · cases q
    · cases q

end
end Go.Eng

namespace Go.Eng
open Go.RowKit

def AT.beq : AT → AT → Bool
  | .tag a, .tag b => a.beq b
  | .val a, .val b => a.beq b
  | .agg a, .agg b => a.beq b
  | .fn f a b, .fn g c d => Nat.beq f g && a.beq c && b.beq d
  | .nil, .nil => true
  | .cons a b, .cons c d => a.beq c && b.beq d
  | _, _ => false
theorem AT.eq_of_beq {a : AT} : ∀ {b : AT}, a.beq b = true → a = b := by
  induction a with
  | tag t => intro b h; cases b <;> simp only [AT.beq, Bool.false_eq_true] at h; rw [Tg.eq_of_beq h]
  | val v => intro b h; cases b <;> simp only [AT.beq, Bool.false_eq_true] at h; rw [AV.beq_eq h]
  | agg a ih => intro b h; cases b <;> simp only [AT.beq, Bool.false_eq_true] at h; rw [ih h]
  | fn f a c ih1 ih2 =>
    intro b h; cases b <;> simp only [AT.beq, Bool.and_eq_true, Bool.false_eq_true] at h
    rw [Nat.eq_of_beq_eq_true h.1.1, ih1 h.1.2, ih2 h.2]
  | nil => intro b h; cases b <;> simp only [AT.beq, Bool.false_eq_true] at h; rfl
  | cons a c ih1 ih2 =>
    intro b h; cases b <;> simp only [AT.beq, Bool.and_eq_true, Bool.false_eq_true] at h
    rw [ih1 h.1, ih2 h.2]

/-- What an opaque value is said to be. -/
structure Leaf (res : List TypeId) where
  sh : Sh
  I : Value → World → Prop
  stable : ∀ v w w', Go.Eng.Kept res w w' → I v w → I v w'
  ok : ∀ v w, I v w → ShOK sh v
  det : sh = .str → ∀ v v' w, I v w → I v' w → v = v'
def clsL (S : List Sh) : Tg → Sh
  | .leaf k => S.getD k .one
  | _ => .one
def Leaf.at {res : List TypeId} (env : List (Leaf res)) (t : Tg) (v : Value) (w : World) : Prop :=
  match t with
  | .leaf k => match env[k]? with
    | some p => p.I v w
    | none => False
  | _ => False
def Gs {res : List TypeId} (env : List (Leaf res)) : Sett where
  ids := []
  res := res
  I := Leaf.at env
  stable := by
    intro t v w w' hk h
    unfold Leaf.at at h ⊢
    split at h
    · split at h
      · rename_i p hp
        exact p.stable v w w' hk h
      · exact h.elim
    · exact h.elim
theorem shapedS {res : List TypeId} {env : List (Leaf res)} {S : List Sh} (hS : env.map (·.sh) = S) : Shaped (Gs env) (clsL S) where
  ok := by
    intro t v w h
    replace h : Leaf.at env t v w := h
    unfold Leaf.at at h
    split at h
    · rename_i k
      split at h
      · rename_i p hp
        have e : clsL S (.leaf k) = p.sh := by
          show S.getD k .one = _
          rw [← hS, List.getD_eq_getElem?_getD, List.getElem?_map, hp]; rfl
        rw [e]
        exact p.ok v w h
      · exact h.elim
    · exact h.elim
  det := by
    intro t ht v v' w h h'
    replace h : Leaf.at env t v w := h
    replace h' : Leaf.at env t v' w := h'
    unfold Leaf.at at h h'
    split at h
    · rename_i k
      split at h
      · rename_i p hp
        have e : clsL S (.leaf k) = p.sh := by
          show S.getD k .one = _
          rw [← hS, List.getD_eq_getElem?_getD, List.getElem?_map, hp]; rfl
        rw [e] at ht
        simp only [hp] at h'
        exact p.det ht v v' w h h'
      · exact h.elim
    · exact h.elim

abbrev Entry := FuncId × AT × AT
def lookT : List Entry → TTab
  | [], _, _ => none
  | (g, ts, rs) :: r, f, us => bif Nat.beq f g && ts.beq us then some rs else lookT r f us

section
variable {P : Program} {B : Nat} {w0 : World} {G : Sett}
theorem told_nil : ToldIn P B w0 G (lookT []) := fun _ _ _ q => by cases q
theorem told_cons {g : FuncId} {ts rs : AT} {r : List Entry} (hb : HasBody P g)
    (h : ∀ w (xs : Array Value), Below B w0 w → PiecesOK G ts xs.toList w → Calls P g xs w fun e w' => ∃ x, e = .returned x ∧ PackOK G rs x w' ∧ Below w.heap.size w w')
    (k : ToldIn P B w0 G (lookT r)) : ToldIn P B w0 G (lookT ((g, ts, rs) :: r)) := by
  intro f us rs' q
  unfold lookT at q
  cases hc : Nat.beq f g && ts.beq us with
  | true =>
    rw [hc] at q
    simp only [cond_true, Option.some.injEq] at q
    simp only [Bool.and_eq_true] at hc
    have e1 := Nat.eq_of_beq_eq_true hc.1
    have e2 := AT.eq_of_beq hc.2
    subst e1; subst e2; subst q
    exact ⟨hb, h⟩
  | false =>
    rw [hc] at q
    exact k f us rs' q
theorem told_e0 {g : FuncId} {rs : AT} {r : List Entry} (hb : HasBody P g)
    (h : ∀ w, Below B w0 w → CallsIn Fence.wide 0 P g #[] w fun e w' => ∃ x, e = .returned x ∧ PackOK G rs x w' ∧ Below w.heap.size w w')
    (k : ToldIn P B w0 G (lookT r)) : ToldIn P B w0 G (lookT ((g, .nil, rs) :: r)) := by
  refine told_cons hb (fun w xs hw hx => ?_) k
  have hx : xs.toList = [] := hx
  have : xs = #[] := Array.toList_inj.1 hx
  subst this
  exact callsIn_wide.1 (h w hw)
theorem told_e1 {g : FuncId} {a rs : AT} {r : List Entry} (hb : HasBody P g)
    (h : ∀ w v, Below B w0 w → PieceOK G a v w → CallsIn Fence.wide 0 P g #[v] w fun e w' => ∃ x, e = .returned x ∧ PackOK G rs x w' ∧ Below w.heap.size w w')
    (k : ToldIn P B w0 G (lookT r)) : ToldIn P B w0 G (lookT ((g, .cons a .nil, rs) :: r)) := by
  refine told_cons hb (fun w xs hw hx => ?_) k
  obtain ⟨v, r, e, h1, h2⟩ := hx
  have h2 : r = [] := h2
  subst h2
  have : xs = #[v] := Array.toList_inj.1 (by simpa using e)
  subst this
  exact callsIn_wide.1 (h w v hw h1)
theorem told_e2 {g : FuncId} {a b rs : AT} {r : List Entry} (hb : HasBody P g)
    (h : ∀ w v u, Below B w0 w → PieceOK G a v w → PieceOK G b u w → CallsIn Fence.wide 0 P g #[v, u] w fun e w' => ∃ x, e = .returned x ∧ PackOK G rs x w' ∧ Below w.heap.size w w')
    (k : ToldIn P B w0 G (lookT r)) : ToldIn P B w0 G (lookT ((g, .cons a (.cons b .nil), rs) :: r)) := by
  refine told_cons hb (fun w xs hw hx => ?_) k
  obtain ⟨v, r, e, h1, u, r2, e2, h2, h3⟩ := hx
  subst e2
  have h3 : r2 = [] := h3
  subst h3
  have : xs = #[v, u] := Array.toList_inj.1 (by simpa using e)
  subst this
  exact callsIn_wide.1 (h w v u hw h1 h2)
theorem told_e3 {g : FuncId} {a b c rs : AT} {r : List Entry} (hb : HasBody P g)
    (h : ∀ w v u s, Below B w0 w → PieceOK G a v w → PieceOK G b u w → PieceOK G c s w → CallsIn Fence.wide 0 P g #[v, u, s] w fun e w' => ∃ x, e = .returned x ∧ PackOK G rs x w' ∧ Below w.heap.size w w')
    (k : ToldIn P B w0 G (lookT r)) : ToldIn P B w0 G (lookT ((g, .cons a (.cons b (.cons c .nil)), rs) :: r)) := by
  refine told_cons hb (fun w xs hw hx => ?_) k
  obtain ⟨v, r, e, h1, u, r2, e2, h2, s, r3, e3, h3, h4⟩ := hx
  subst e2; subst e3
  have h4 : r3 = [] := h4
  subst h4
  have : xs = #[v, u, s] := Array.toList_inj.1 (by simpa using e)
  subst this
  exact callsIn_wide.1 (h w v u s hw h1 h2 h3)

/-- **A function is run on pieces by a script.** -/
theorem run_script {res : List TypeId} {env : List (Leaf res)} {S : List Sh} {L : List Entry} {w : World} (hm : P.follows .mixedOrders = true) (hN : NamesOK P) (hS : env.map (·.sh) = S) (hT : ToldIn P w.heap.size w (Gs env) (lookT L))
    {n : Nat} {f : FuncId} {ts rs : AT} (h : runF P (clsL S) (lookT L) res [] n f ts = some rs) {xs : Array Value} (hx : PiecesOK (Gs env) ts xs.toList w) :
    CallsIn Fence.wide 0 P f xs w fun e w' => ∃ x, e = .returned x ∧ PackOK (Gs env) rs x w' ∧ Below w.heap.size w w' :=
  callsIn_wide.2 (run_soundW hm hN (shapedS hS) rfl hT (by simp) h hx)
end
end Go.Eng
