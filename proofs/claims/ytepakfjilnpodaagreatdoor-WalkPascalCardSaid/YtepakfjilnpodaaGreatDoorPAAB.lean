/-
  The abstract machine's tables and forcing; the relation between its values and heaps and those of the model. The relation between the abstra
  Conditions: see each statement.
-/
import Derived.Test.YtepakfjilnpodaaGreatDoorPAAA
import Derived.Below
import Derived.RangeFuncCalls
namespace Go.Eng
open Go.RowKit

/-! ### Tables -/
def Tr.set {α : Type} : Nat → Tr α → Nat → Option α → Tr α
  | 0, _, _, _ => .nil
  | f + 1, .nil, n, x =>
    bif Nat.beq n 0 then .node .nil x .nil
    else bif Nat.beq (n % 2) 1 then .node (Tr.set f .nil (n / 2) x) none .nil
    else .node .nil none (Tr.set f .nil (n / 2 - 1) x)
  | f + 1, .node l v r, n, x =>
    bif Nat.beq n 0 then .node l x r
    else bif Nat.beq (n % 2) 1 then .node (Tr.set f l (n / 2) x) v r
    else .node l v (Tr.set f r (n / 2 - 1) x)

theorem Tr.setK_eq {α : Type} (f : Nat) : ∀ {β : Type} (t : Tr α) (n : Nat) (x : Option α) (k : Tr α → β), Tr.setK f t n x k = k (Tr.set f t n x) := by
  induction f with
  | zero => intro β t n x k; rfl
  | succ f ih =>
    intro β t n x k
    cases t <;> simp only [Tr.set, Tr.setK, ih] <;> cases Nat.beq n 0 <;> cases Nat.beq (n % 2) 1 <;> rfl

theorem beq_iff (m n : Nat) : Nat.beq m n = true ↔ m = n := ⟨Nat.eq_of_beq_eq_true, fun h => h ▸ Nat.beq_refl m⟩
theorem beq_false (m n : Nat) : Nat.beq m n = false ↔ m ≠ n := by
  have := beq_iff m n
  cases h : Nat.beq m n <;> simp_all

theorem Tr.get_set {α : Type} (f : Nat) : ∀ (t : Tr α) (n : Nat) (x : Option α) (m : Nat) (v : α), (Tr.set f t n x).get m = some v → (m = n ∧ x = some v) ∨ (m ≠ n ∧ t.get m = some v) := by
  induction f with
  | zero => intro t n x m v h; simp [Tr.set, Tr.get] at h
  | succ f ih =>
    intro t n x m v h
    cases t with
    | nil =>
      simp only [Tr.set] at h
      cases hn : Nat.beq n 0 with
      | true =>
        rw [hn] at h
        simp only [cond_true, Tr.get] at h
        have hn0 := (beq_iff _ _).1 hn
        cases hm : Nat.beq m 0 with
        | true => rw [hm] at h; have := (beq_iff _ _).1 hm; left; exact ⟨by omega, h⟩
        | false => rw [hm] at h; cases Nat.beq (m % 2) 1 <;> simp at h
      | false =>
        have hn0 := (beq_false _ _).1 hn
        rw [hn] at h
        cases hp : Nat.beq (n % 2) 1 with
        | true =>
          rw [hp] at h
          have hp1 := (beq_iff _ _).1 hp
          simp only [cond_true, cond_false, Tr.get] at h
          cases hm : Nat.beq m 0 with
          | true => rw [hm] at h; simp at h
          | false =>
            have hm0 := (beq_false _ _).1 hm
            rw [hm] at h
            cases hq : Nat.beq (m % 2) 1 with
            | false => rw [hq] at h; simp at h
            | true =>
              have hq1 := (beq_iff _ _).1 hq
              rw [hq] at h
              simp only [cond_true, cond_false] at h
              rcases ih _ _ _ _ _ h with ⟨h1, h2⟩ | ⟨_, h2⟩
              · left; exact ⟨by omega, h2⟩
              · simp [Tr.get] at h2
        | false =>
          rw [hp] at h
          have hp1 := (beq_false _ _).1 hp
          simp only [cond_false, Tr.get] at h
          cases hm : Nat.beq m 0 with
          | true => rw [hm] at h; simp at h
          | false =>
            have hm0 := (beq_false _ _).1 hm
            rw [hm] at h
            cases hq : Nat.beq (m % 2) 1 with
            | true => rw [hq] at h; simp at h
            | false =>
              have hq1 := (beq_false _ _).1 hq
              rw [hq] at h
              simp only [cond_false] at h
              rcases ih _ _ _ _ _ h with ⟨h1, h2⟩ | ⟨_, h2⟩
              · left; exact ⟨by omega, h2⟩
              · simp [Tr.get] at h2
    | node l u r =>
      simp only [Tr.set] at h
      cases hn : Nat.beq n 0 with
      | true =>
        rw [hn] at h
        simp only [cond_true, Tr.get] at h ⊢
        have hn0 := (beq_iff _ _).1 hn
        cases hm : Nat.beq m 0 with
        | true => rw [hm] at h; have := (beq_iff _ _).1 hm; left; exact ⟨by omega, h⟩
        | false => rw [hm] at h; have := (beq_false _ _).1 hm; right; exact ⟨by omega, h⟩
      | false =>
        have hn0 := (beq_false _ _).1 hn
        rw [hn] at h
        cases hp : Nat.beq (n % 2) 1 with
        | true =>
          rw [hp] at h
          have hp1 := (beq_iff _ _).1 hp
          simp only [cond_true, cond_false, Tr.get] at h ⊢
          cases hm : Nat.beq m 0 with
          | true => rw [hm] at h; have := (beq_iff _ _).1 hm; right; exact ⟨by omega, h⟩
          | false =>
            have hm0 := (beq_false _ _).1 hm
            rw [hm] at h
            cases hq : Nat.beq (m % 2) 1 with
            | false => rw [hq] at h; have := (beq_false _ _).1 hq; right; exact ⟨by omega, h⟩
            | true =>
              have hq1 := (beq_iff _ _).1 hq
              rw [hq] at h
              simp only [cond_true, cond_false] at h ⊢
              rcases ih _ _ _ _ _ h with ⟨h1, h2⟩ | ⟨h1, h2⟩
              · left; exact ⟨by omega, h2⟩
              · right; exact ⟨by omega, h2⟩
        | false =>
          rw [hp] at h
          have hp1 := (beq_false _ _).1 hp
          simp only [cond_false, Tr.get] at h ⊢
          cases hm : Nat.beq m 0 with
          | true => rw [hm] at h; have := (beq_iff _ _).1 hm; right; exact ⟨by omega, h⟩
          | false =>
            have hm0 := (beq_false _ _).1 hm
            rw [hm] at h
            cases hq : Nat.beq (m % 2) 1 with
            | true => rw [hq] at h; have := (beq_iff _ _).1 hq; right; exact ⟨by omega, h⟩
            | false =>
              have hq1 := (beq_false _ _).1 hq
              rw [hq] at h
              simp only [cond_false] at h ⊢
              rcases ih _ _ _ _ _ h with ⟨h1, h2⟩ | ⟨h1, h2⟩
              · left; exact ⟨by omega, h2⟩
              · right; exact ⟨by omega, h2⟩

/-! ### Forcing changes nothing -/
@[simp] theorem fN_eq {β : Type} (n : Nat) (k : Nat → β) : fN n k = k n := by cases n <;> rfl
@[simp] theorem fI_eq {β : Type} (n : Int) (k : Int → β) : fI n k = k n := by cases n <;> simp [fI]
@[simp] theorem fB_eq {β : Type} (b : Bool) (k : Bool → β) : fB b k = k b := by cases b <;> rfl
@[simp] theorem fBytes_eq {β : Type} (l : List UInt8) : ∀ (k : List UInt8 → β), fBytes l k = k l := by
  induction l with
  | nil => intro k; rfl
  | cons b t ih => intro k; simp [fBytes, ih]
@[simp] theorem Sc.force_eq {β : Type} (s : Sc) (k : Sc → β) : s.force k = k s := by
  cases s <;> simp [Sc.force]
@[simp] theorem AV.force_eq {β : Type} (v : AV) : ∀ (k : AV → β), v.force k = k v := by
  induction v <;> intro k <;> simp_all [AV.force]

/-! ### Values -/
structure Mu where
  blk : Nat → Option (Nat × Nat)
  hd : Nat → Option Value
instance : CoeFun Mu (fun _ => Nat → Option (Nat × Nat)) := ⟨Mu.blk⟩
structure Mu.le (μ ν : Mu) : Prop where
  of : ∀ i l, μ i = some l → ν i = some l
  hd : ∀ i v, μ.hd i = some v → ν.hd i = some v
instance {μ ν : Mu} : CoeFun (μ.le ν) (fun _ => ∀ i l, μ i = some l → ν i = some l) := ⟨Mu.le.of⟩
theorem Mu.le.refl (μ : Mu) : μ.le μ := ⟨fun _ _ h => h, fun _ _ h => h⟩
theorem Mu.le.trans {μ ν ξ : Mu} (h : μ.le ν) (k : ν.le ξ) : μ.le ξ := ⟨fun i l e => k i l (h i l e), fun i v e => k.hd i v (h.hd i v e)⟩

/-- What a value of the abstract machine stands for: as a value; as a list of cells. -/
def Rel (μ : Mu) : AV → (Value → Prop) × (List Value → Prop)
  | .sc s => (fun x => x = s.val, fun _ => False)
  | .ptr i o => (fun x => ∃ b N, μ i = some (b, N) ∧ x = .pointer (some ⟨b, o, none⟩), fun _ => False)
  | .slc i o len cm ex esz => (fun x => ∃ b N c, μ i = some (b, N) ∧ x = .slice (some ⟨b, o, none⟩) len c ∧ cm ≤ c ∧ (ex = true → c = cm) ∧ o + c * esz ≤ N ∧ len ≤ cm, fun _ => False)
  | .map i => (fun x => ∃ b N, μ i = some (b, N) ∧ x = .map (some b), fun _ => False)
  | .yield i => (fun x => ∃ b N, μ i = some (b, N) ∧ x = .func (.yield b) #[] #[], fun _ => False)
  | .fn f fs cs => (fun x => ∃ xs ys, x = .func (.func f) xs ys ∧ (Rel μ fs).2 xs.toList ∧ (Rel μ cs).2 ys.toList, fun _ => False)
  | .hc i k => (fun x => ∃ v, μ.hd i = some v ∧ v.cells[k]? = some x ∧ x.oneCell' = true, fun _ => False)
  | .hs i => (fun x => ∃ s, μ.hd i = some (.string s) ∧ x = .string s, fun _ => False)
  | .iface t v => (fun x => ∃ y, x = .iface t y ∧ (Rel μ v).1 y, fun _ => False)
  | .agg cs => (fun x => ∃ xs, x = .agg xs ∧ (Rel μ cs).2 xs.toList, fun _ => False)
  | .tup cs => (fun x => ∃ xs, x = .tuple xs ∧ (Rel μ cs).2 xs.toList, fun _ => False)
  | .nil => (fun _ => False, fun xs => xs = [])
  | .cons h t => (fun _ => False, fun xs => ∃ x r, xs = x :: r ∧ (Rel μ h).1 x ∧ (Rel μ t).2 r)

def VR (μ : Mu) (v : AV) (x : Value) : Prop := (Rel μ v).1 x
def LR (μ : Mu) (v : AV) (xs : List Value) : Prop := (Rel μ v).2 xs

theorem Rel.mono {μ ν : Mu} (h : μ.le ν) (v : AV) : (∀ x, (Rel μ v).1 x → (Rel ν v).1 x) ∧ (∀ xs, (Rel μ v).2 xs → (Rel ν v).2 xs) := by
  induction v with
  | sc s => exact ⟨fun _ h => h, fun _ h => h⟩
  | ptr i o => exact ⟨fun x ⟨b, N, e, hx⟩ => ⟨b, N, h _ _ e, hx⟩, fun _ h => h⟩
  | slc i o len cm ex esz => exact ⟨fun x ⟨b, N, c, e, hx⟩ => ⟨b, N, c, h _ _ e, hx⟩, fun _ h => h⟩
  | map i => exact ⟨fun x ⟨b, N, e, hx⟩ => ⟨b, N, h _ _ e, hx⟩, fun _ h => h⟩
  | yield i => exact ⟨fun x ⟨b, N, e, hx⟩ => ⟨b, N, h _ _ e, hx⟩, fun _ h => h⟩
  | fn f fs cs ih1 ih2 => exact ⟨fun x ⟨xs, ys, e, h1, h2⟩ => ⟨xs, ys, e, ih1.2 _ h1, ih2.2 _ h2⟩, fun _ h => h⟩
  | hc i k => exact ⟨fun x ⟨v, e, h1⟩ => ⟨v, h.hd _ _ e, h1⟩, fun _ h => h⟩
  | hs i => exact ⟨fun x ⟨s, e, h1⟩ => ⟨s, h.hd _ _ e, h1⟩, fun _ h => h⟩
  | iface t v ih => exact ⟨fun x ⟨y, e, h1⟩ => ⟨y, e, ih.1 _ h1⟩, fun _ h => h⟩
  | agg cs ih => exact ⟨fun x ⟨y, e, h1⟩ => ⟨y, e, ih.2 _ h1⟩, fun _ h => h⟩
  | tup cs ih => exact ⟨fun x ⟨y, e, h1⟩ => ⟨y, e, ih.2 _ h1⟩, fun _ h => h⟩
  | nil => exact ⟨fun _ h => h, fun _ h => h⟩
  | cons a t ih1 ih2 => exact ⟨fun _ h => h, fun xs ⟨x, r, e, h1, h2⟩ => ⟨x, r, e, ih1.1 _ h1, ih2.2 _ h2⟩⟩

theorem VR.mono {μ ν : Mu} (h : μ.le ν) {v : AV} {x : Value} (hv : VR μ v x) : VR ν v x := (Rel.mono h v).1 x hv
theorem LR.mono {μ ν : Mu} (h : μ.le ν) {v : AV} {x : List Value} (hv : LR μ v x) : LR ν v x := (Rel.mono h v).2 x hv

section lists
variable {μ : Mu}
theorem LR.nil : LR μ .nil [] := rfl
theorem LR.cons {h t : AV} {x : Value} {r : List Value} (a : VR μ h x) (b : LR μ t r) : LR μ (.cons h t) (x :: r) := ⟨x, r, rfl, a, b⟩
theorem LR.len {v : AV} : ∀ {xs : List Value}, LR μ v xs → xs.length = v.len := by
  induction v with
  | nil => intro xs h; simp [LR, Rel] at h; simp [h, AV.len]
  | cons a t _ ih => rintro xs ⟨x, r, rfl, h1, h2⟩; simp [AV.len, ih h2]
  | _ => intro xs h; exact h.elim
theorem LR.nth {v : AV} : ∀ {xs : List Value} {n : Nat} {u : AV}, LR μ v xs → v.nth n = some u → ∃ x, xs[n]? = some x ∧ VR μ u x := by
  induction v with
  | cons a t _ ih =>
    rintro xs n u ⟨x, r, rfl, h1, h2⟩ hn
    cases n with
    | zero => simp [AV.nth] at hn; subst hn; exact ⟨x, rfl, h1⟩
    | succ n => simp only [AV.nth] at hn; obtain ⟨y, e, hy⟩ := ih h2 hn; exact ⟨y, by simpa using e, hy⟩
  | _ => intro xs n u _ hn; simp [AV.nth] at hn
theorem LR.nth' {v : AV} : ∀ {xs : List Value} {n : Nat} {x : Value}, LR μ v xs → xs[n]? = some x → ∃ u, v.nth n = some u ∧ VR μ u x := by
  induction v with
  | nil => intro xs n x h e; simp [LR, Rel] at h; simp [h] at e
  | cons a t _ ih =>
    rintro xs n u ⟨x, r, rfl, h1, h2⟩ hn
    cases n with
    | zero => simp at hn; subst hn; exact ⟨a, rfl, h1⟩
    | succ n => obtain ⟨y, e, hy⟩ := ih h2 (by simpa using hn); exact ⟨y, e, hy⟩
  | _ => intro xs n u h; exact h.elim
theorem LR.take {v : AV} : ∀ {xs : List Value} (n : Nat), LR μ v xs → LR μ (v.take n) (xs.take n) := by
  induction v with
  | nil => intro xs n h; simp [LR, Rel] at h; subst h; cases n <;> simp [AV.take, LR, Rel]
  | cons a t _ ih =>
    rintro xs n ⟨x, r, rfl, h1, h2⟩
    cases n with
    | zero => simp [AV.take, LR, Rel]
    | succ n => simp only [AV.take, List.take_succ_cons]; exact .cons h1 (ih n h2)
  | _ => intro xs n h; exact h.elim
theorem LR.drop {v : AV} : ∀ {xs : List Value} (n : Nat), LR μ v xs → LR μ (v.drop n) (xs.drop n) := by
  induction v with
  | nil => intro xs n h; simp [LR, Rel] at h; subst h; cases n <;> simp [AV.drop, LR, Rel]
  | cons a t _ ih =>
    rintro xs n ⟨x, r, rfl, h1, h2⟩
    cases n with
    | zero => simp only [AV.drop, List.drop_zero]; exact .cons h1 h2
    | succ n => simp only [AV.drop, List.drop_succ_cons]; exact ih n h2
  | _ => intro xs n h; exact h.elim
theorem LR.app {v u : AV} {ys : List Value} (hu : LR μ u ys) : ∀ {xs : List Value}, LR μ v xs → LR μ (v.app u) (xs ++ ys) := by
  induction v with
  | nil => intro xs h; simp [LR, Rel] at h; subst h; exact hu
  | cons a t _ ih => rintro xs ⟨x, r, rfl, h1, h2⟩; exact .cons h1 (ih h2)
  | _ => intro xs h; exact h.elim
theorem len_app {v u : AV} : v.isList = true → (v.app u).len = v.len + u.len := by
  induction v with
  | nil => intro _; simp [AV.app, AV.len]
  | cons a t _ ih => intro h; simp [AV.app, AV.len, ih h]; omega
  | _ => intro h; simp [AV.isList] at h
theorem LR.isList {v : AV} : ∀ {xs : List Value}, LR μ v xs → v.isList = true := by
  induction v with
  | nil => intro xs h; rfl
  | cons a t _ ih => rintro xs ⟨x, r, rfl, h1, h2⟩; exact ih h2
  | _ => intro xs h; exact h.elim
theorem LR.put {v : AV} : ∀ {xs : List Value} {n : Nat} {u w : AV} {ys : List Value}, LR μ v xs → LR μ u ys → v.put n u = some w →
    n + ys.length ≤ xs.length ∧ LR μ w (xs.take n ++ ys ++ xs.drop (n + ys.length)) := by
  induction v with
  | nil =>
    intro xs n u w ys h hu hp
    simp [LR, Rel] at h; subst h
    cases n with
    | zero => cases u with
      | nil => simp [AV.put] at hp; subst hp; simp [LR, Rel] at hu; subst hu; simp [LR, Rel]
      | cons a t => simp [AV.put] at hp
      | _ => exact hu.elim
    | succ n => simp [AV.put] at hp
  | cons a t _ ih =>
    rintro xs n u w ys ⟨x, r, rfl, h1, h2⟩ hu hp
    cases n with
    | zero =>
      cases u with
      | nil => simp [AV.put] at hp; subst hp; simp [LR, Rel] at hu; subst hu; exact ⟨by simp, by simpa using LR.cons h1 h2⟩
      | cons b s =>
        obtain ⟨y, q, rfl, g1, g2⟩ := hu
        simp only [AV.put, Option.map_eq_some_iff] at hp
        obtain ⟨w', hw, rfl⟩ := hp
        obtain ⟨k1, k2⟩ := ih h2 g2 hw
        simp only [Nat.zero_add, List.take_zero, List.nil_append, List.length_cons, List.drop_succ_cons, List.cons_append] at k1 k2 ⊢
        exact ⟨by omega, .cons g1 k2⟩
      | _ => exact hu.elim
    | succ n =>
      simp only [AV.put, Option.map_eq_some_iff] at hp
      obtain ⟨w', hw, rfl⟩ := hp
      obtain ⟨k1, k2⟩ := ih h2 hu hw
      refine ⟨by simp; omega, ?_⟩
      rw [show n + 1 + ys.length = (n + ys.length) + 1 from by omega]
      simp only [List.take_succ_cons, List.cons_append, List.drop_succ_cons]
      exact .cons h1 k2
  | _ => intro xs n u w ys h; exact h.elim
theorem LR.allOne {v : AV} : ∀ {xs : List Value}, LR μ v xs → v.allOne = true → ∀ x ∈ xs, x.oneCell' = true := by
  induction v with
  | nil => intro xs h _ x hx; simp [LR, Rel] at h; simp [h] at hx
  | cons a t _ ih =>
    rintro xs ⟨x, r, rfl, h1, h2⟩ hone y hy
    simp only [AV.allOne, Bool.and_eq_true] at hone
    rcases List.mem_cons.1 hy with rfl | hy
    · cases a with
      | sc s => cases s <;> simp_all [Rel, Sc.val, Value.oneCell']
      | ptr i o => obtain ⟨b, N, _, rfl⟩ := h1; rfl
      | slc i o l c e s => obtain ⟨b, N, c, _, rfl, _⟩ := h1; rfl
      | map i => obtain ⟨b, N, _, rfl⟩ := h1; rfl
      | yield i => obtain ⟨b, N, _, rfl⟩ := h1; rfl
      | fn f fs cs => obtain ⟨_, _, rfl, _⟩ := h1; rfl
      | hc i k => obtain ⟨v, _, _, q⟩ := h1; exact q
      | hs i => obtain ⟨s, _, rfl⟩ := h1; rfl
      | iface t v => obtain ⟨_, rfl, _⟩ := h1; rfl
      | agg cs => simp at hone
      | tup cs => simp at hone
      | nil => simp at hone
      | cons _ _ => simp at hone
    · exact ih h2 hone.2 y hy
  | _ => intro xs h; exact h.elim
theorem LR.rep {z : AV} {zs : List Value} (hz : LR μ z zs) : ∀ n, LR μ (AV.rep n z) (List.replicate n zs).flatten
  | 0 => rfl
  | n + 1 => by rw [List.replicate_succ, List.flatten_cons]; exact LR.app (LR.rep hz n) hz
theorem LR.det {v : AV} {s : List Value} (h : scCells v = some s) : ∀ {xs : List Value}, LR μ v xs → xs = s := by
  induction v generalizing s with
  | nil => intro xs hx; simp [scCells] at h; simp [LR, Rel] at hx; simp [hx, h]
  | cons a t _ ih =>
    rintro xs ⟨x, r, rfl, h1, h2⟩
    cases a with
    | sc q =>
      simp only [scCells, Option.map_eq_some_iff] at h
      obtain ⟨s', hs, rfl⟩ := h
      rw [ih hs h2]
      simp only [Rel] at h1
      rw [h1]
    | _ => simp [scCells] at h
  | _ => simp [scCells] at h
end lists

theorem Sc.of_val {v : Value} {s : Sc} (h : Sc.of v = some s) : s.val = v := by
  unfold Sc.of at h
  split at h <;> simp at h <;> subst h <;> rfl
theorem ofCells_LR (μ : Mu) : ∀ {l : List Value} {v : AV}, ofCells l = some v → LR μ v l
  | [], v, h => by simp [ofCells] at h; subst h; rfl
  | x :: r, v, h => by
    simp only [ofCells] at h
    split at h
    · rename_i s t hs ht
      simp at h; subst h
      exact .cons (Sc.of_val hs).symm (ofCells_LR μ ht)
    · simp at h
theorem ofVal_VR (μ : Mu) {x : Value} {v : AV} (h : AV.ofVal x = some v) : VR μ v x := by
  unfold AV.ofVal at h
  split at h
  · simp only [Option.map_eq_some_iff] at h
    obtain ⟨l, hl, rfl⟩ := h
    exact ⟨_, rfl, ofCells_LR μ hl⟩
  · rename_i cs
    split at h
    · rename_i hc
      simp at h; subst h
      have : cs = #[] := Array.toList_eq_nil_iff.1 hc
      subst this; rfl
    · simp at h
  · simp only [Option.map_eq_some_iff] at h
    obtain ⟨s, hs, rfl⟩ := h
    exact (Sc.of_val hs).symm

/-! ### Equality -/
theorem beqK_eq {a b : IntKind} (h : beqK a b = true) : a = b := by
  cases a <;> cases b <;> simp_all [beqK]
theorem beqI_eq {a b : Int} (h : beqI a b = true) : a = b := by
  cases a <;> cases b <;> simp_all [beqI] <;> exact Nat.eq_of_beq_eq_true h
theorem beqB_eq {a b : Bool} (h : beqB a b = true) : a = b := by
  cases a <;> cases b <;> simp_all [beqB]
theorem beqBytes_eq : ∀ {a b : List UInt8}, beqBytes a b = true → a = b
  | [], [], _ => rfl
  | x :: s, y :: t, h => by
    simp only [beqBytes, Bool.and_eq_true] at h
    rw [beqBytes_eq h.2, UInt8.toNat_inj.1 (Nat.eq_of_beq_eq_true h.1)]
  | [], _ :: _, h => by simp [beqBytes] at h
  | _ :: _, [], h => by simp [beqBytes] at h
theorem Sc.beq_eq {a b : Sc} (h : a.beq b = true) : a = b := by
  cases a <;> cases b <;> simp_all [Sc.beq]
  · exact beqB_eq h
  · exact ⟨beqK_eq h.1, beqI_eq h.2⟩
  · rename_i s t
    have := beqBytes_eq h
    cases s with | mk s => cases t with | mk t => simp at this; rw [this]
theorem AV.beq_eq {a : AV} : ∀ {b : AV}, a.beq b = true → a = b := by
  induction a with
  | sc s => intro b h; cases b <;> simp [AV.beq] at h; rw [Sc.beq_eq h]
  | ptr i o => intro b h; cases b <;> simp [AV.beq] at h; simp [h]
  | slc i o l c e s =>
    intro b h; cases b <;> simp [AV.beq] at h
    obtain ⟨⟨⟨⟨⟨h1, h2⟩, h3⟩, h4⟩, h5⟩, h6⟩ := h
    simp [h1, h2, h3, h4, beqB_eq h5, h6]
  | map i => intro b h; cases b <;> simp [AV.beq] at h; simp [h]
  | yield i => intro b h; cases b <;> simp [AV.beq] at h; simp [h]
  | fn f fs cs ih1 ih2 => intro b h; cases b <;> simp [AV.beq] at h; rw [h.1.1, ih1 h.1.2, ih2 h.2]
  | hc i k => intro b h; cases b <;> simp [AV.beq] at h; simp [h]
  | hs i => intro b h; cases b <;> simp [AV.beq] at h; simp [h]
  | iface t v ih => intro b h; cases b <;> simp [AV.beq] at h; rw [h.1, ih h.2]
  | agg cs ih => intro b h; cases b <;> simp [AV.beq] at h; rw [ih h]
  | tup cs ih => intro b h; cases b <;> simp [AV.beq] at h; rw [ih h]
  | nil => intro b h; cases b <;> simp [AV.beq] at h; rfl
  | cons x t ih1 ih2 => intro b h; cases b <;> simp [AV.beq] at h; rw [ih1 h.1, ih2 h.2]


def AObj.cls (i : Nat) : AObj → Nat
  | .cells fam _ _ _ => fam
  | _ => i

def keyLike (P : Program) (kt : TypeId) (v : AV) : Prop := keyFits P kt v = true

/-- The entries of a map. -/
def ER (P : Program) (μ : Mu) (kt : TypeId) : AV → List MapEntry → Prop
  | .nil, es => es = []
  | .cons (.cons k v) t, es => ∃ e r, es = e :: r ∧ keyFits P kt k = true ∧ VR μ k e.key ∧ VR μ v e.val ∧ ER P μ kt t r
  | _, _ => False

def TR (μ : Mu) (nt : Nat) (T : Tr AV) (tmps : Array Value) : Prop :=
  tmps.size = nt ∧ ∀ t v, T.get t = some v → VR μ v (tmps.getD t undef)

theorem ER.mono {P : Program} {μ ν : Mu} (h : μ.le ν) {kt : TypeId} : ∀ {v : AV} {es : List MapEntry}, ER P μ kt v es → ER P ν kt v es
  | .nil, _, h' => h'
  | .cons (.cons _ _) t, _, ⟨e, r, h1, hk, h2, h3, h4⟩ => ⟨e, r, h1, hk, h2.mono h, h3.mono h, ER.mono h (v := t) h4⟩
theorem TR.mono {μ ν : Mu} (h : μ.le ν) {nt : Nat} {T : Tr AV} {tmps : Array Value} (ht : TR μ nt T tmps) : TR ν nt T tmps :=
  ⟨ht.1, fun t v e => (ht.2 t v e).mono h⟩

/-- The blocks of cells of the kept types are as they were. -/
def Kept (res : List TypeId) (w w' : World) : Prop := ∀ (b : Nat) (cs : Array Value) (e : TypeId) (fz : Nat × Nat), w.heap[b]? = some (Obj.cells cs e fz) → res.contains e = true → w'.heap[b]? = some (Obj.cells cs e fz)
theorem Kept.refl (res : List TypeId) (w : World) : Kept res w w := fun _ _ _ _ h _ => h
theorem Kept.trans {res : List TypeId} {w w' w'' : World} (h : Kept res w w') (k : Kept res w' w'') : Kept res w w'' := fun b cs e fz q r => k b cs e fz (h b cs e fz q r) r
theorem Kept.of_below {res : List TypeId} {w w' : World} (h : Below w.heap.size w w') : Kept res w w' := fun b cs e fz q _ => by
  rw [h.block b (Array.getElem?_eq_some_iff.1 q).1]; exact q

/-- What a run of the machine leans on: the package-level variables that it knows; the types whose blocks are not its own; what its opaque values are said to be. -/
structure Sett where
  ids : List Nat
  res : List TypeId
  I : Tg → Value → World → Prop
  stable : ∀ t v w w', Kept res w w' → I t v w → I t v w'
instance : Coe Sett (List Nat) := ⟨Sett.ids⟩

structure Rep (P : Program) (B : Nat) (w0 : World) (G : Sett) (μ : Mu) (H : AH) (w : World) : Prop where
  resd : H.res = G.res
  hdom : ∀ i v, μ.hd i = some v → i < H.next
  fact : ∀ i t, H.objs.get i = some (.opq t) → ∃ v, μ.hd i = some v ∧ G.I t v w
  free : ∀ i b N, μ i = some (b, N) → B ≤ b → ∀ (cs : Array Value) (e : TypeId) (fz : Nat × Nat), w.heap[b]? = some (Obj.cells cs e fz) → G.res.contains e = false
  below : Below B w0 w
  base : B ≤ w0.heap.size
  dom : ∀ i b N, μ i = some (b, N) → i < H.next ∧ b < w.heap.size
  glob : ∀ g ∈ G.ids, ∃ N, μ g = some (g, N)
  own : ∀ i o, H.objs.get i = some o → i < H.next ∧ o.cls i < H.next
  sep : ∀ i j oi oj b N M, H.objs.get i = some oi → H.objs.get j = some oj → μ i = some (b, N) → μ j = some (b, M) → oi.cls i = oj.cls j
  vtop : ∀ i j fam vi ei ci vj ej cj lw, H.objs.get i = some (.cells fam vi ei ci) → H.objs.get j = some (.cells fam vj ej cj) → H.fams.get fam = some (j, lw) → i ≠ j → vi < vj
  tip : ∀ i j fam vi ei ci vj ej cj lw b N M, H.objs.get i = some (.cells fam vi ei ci) → H.objs.get j = some (.cells fam vj ej cj) → H.fams.get fam = some (j, lw) → lw ≤ vi →
    μ i = some (b, N) → μ j = some (b, M) → ci.len ≤ cj.len
  write : ∀ i fam ver e cs lw b N, H.objs.get i = some (.cells fam ver e cs) → H.fams.get fam = some (i, lw) → μ i = some (b, N) → B ≤ b
  cells : ∀ i fam ver e cs tip lw b N, H.objs.get i = some (.cells fam ver e cs) → H.fams.get fam = some (tip, lw) → lw ≤ ver → μ i = some (b, N) →
    ∃ arr te fz, w.heap[b]? = some (.cells arr te fz) ∧ arr.size = N ∧ cs.len ≤ N ∧ LR μ cs (arr.toList.take cs.len) ∧ (B ≤ b → fz = (0, 0))
  map : ∀ i kt es b N, H.objs.get i = some (.map kt es) → μ i = some (b, N) → B ≤ b ∧ ∃ entries clock, w.heap[b]? = some (.map entries clock) ∧ ER P μ kt es entries.toList
  loop : ∀ i st pend fn nt T ps as bd dd b N, H.objs.get i = some (.loop st pend fn nt T ps as bd dd) → μ i = some (b, N) →
    B ≤ b ∧ ∃ L d M, w.heap[b]? = some (.loop L) ∧ L.state = st ∧ L.pending = pend ∧ TR μ nt T L.tmps ∧ L.params.toList = ps ∧ L.assign = as ∧ L.body = bd ∧ μ dd = some (d, M) ∧ L.defers = d
  defd : ∀ i op b N, H.objs.get i = some (.defd op) → μ i = some (b, N) → B ≤ b ∧ w.heap[b]? = some (.deferred (if op = true then some [] else none))

section
variable {P : Program} {B : Nat} {w0 : World} {G : Sett} {μ : Mu} {H : AH} {w : World}

/-- Only the heap and the streams of a world count. -/
theorem Rep.same (h : Rep P B w0 G μ H w) {w' : World} (hh : w'.heap = w.heap) (hb : Below B w0 w') : Rep P B w0 G μ H w' where
  resd := h.resd
  hdom := h.hdom
  fact := fun i t ho => let ⟨v, h1, h2⟩ := h.fact i t ho; ⟨v, h1, G.stable _ _ _ _ (fun _ _ _ _ q _ => hh ▸ q) h2⟩
  free := fun i b N e hb cs te fz q => h.free i b N e hb cs te fz (hh ▸ q)
  below := hb
  base := h.base
  dom := fun i b N e => hh ▸ h.dom i b N e
  glob := h.glob
  own := h.own
  sep := h.sep
  vtop := h.vtop
  tip := h.tip
  write := h.write
  cells := fun i fam ver e cs tip lw b N h1 h2 h3 h4 => hh ▸ h.cells i fam ver e cs tip lw b N h1 h2 h3 h4
  map := fun i kt es b N h1 h2 => hh ▸ h.map i kt es b N h1 h2
  loop := fun i st pend fn nt T ps as bd dd b N h1 h2 => hh ▸ h.loop i st pend fn nt T ps as bd dd b N h1 h2
  defd := fun i op b N h1 h2 => hh ▸ h.defd i op b N h1 h2

theorem Rep.drewN (h : Rep P B w0 G μ H w) (n : Nat) : Rep P B w0 G μ H { w with drawn := n } :=
  h.same rfl ⟨h.below.os, h.below.tape, h.below.output, h.below.size, h.below.block⟩

theorem Rep.baseNow (h : Rep P B w0 G μ H w) : B ≤ w.heap.size := Nat.le_trans h.base h.below.size

/-- The cells of a block that still stands for what it says. -/
theorem live_some {i fam ver : Nat} {e : TypeId} {cs : AV} (h : H.live i = some (fam, ver, e, cs)) :
    H.objs.get i = some (.cells fam ver e cs) ∧ ∃ tip lw, H.fams.get fam = some (tip, lw) ∧ lw ≤ ver := by
  unfold AH.live at h
  split at h
  · rename_i f v e' c ho
    split at h
    · rename_i tip lw hf
      cases hb : Nat.ble lw v with
      | true => rw [hb] at h; simp at h; obtain ⟨rfl, rfl, rfl, rfl⟩ := h; exact ⟨ho, tip, lw, hf, Nat.le_of_ble_eq_true hb⟩
      | false => rw [hb] at h; simp at h
    · simp at h
  · simp at h

theorem cell?_of {b k : Nat} {arr : Array Value} {te : TypeId} {fz : Nat × Nat} (h : w.heap[b]? = some (.cells arr te fz)) : w.cell? ⟨b, k, none⟩ = arr[k]? := by
  simp [World.cell?, h]

/-- Loads: the cells read are those of the block. -/
theorem Rep.load (h : Rep P B w0 G μ H w) {i o n b N : Nat} {cs : AV} (hc : H.cellsAt i o n = some cs) (hm : μ i = some (b, N)) :
    ∃ xs : List Value, xs.length = n ∧ LR μ cs xs ∧ ∀ j v, xs[j]? = some v → w.cell? ((⟨b, o, none⟩ : Addr).add j) = some v := by
  unfold AH.cellsAt at hc
  split at hc
  · rename_i fam ver e c hl
    obtain ⟨ho, tip, lw, hf, hle⟩ := live_some hl
    obtain ⟨arr, te, fz, hw, hN, hcN, hLR, _⟩ := h.cells _ _ _ _ _ _ _ _ _ ho hf hle hm
    simp only at hc
    cases hb : Nat.beq ((c.drop o).take n).len n with
    | false => rw [hb] at hc; simp at hc
    | true =>
      rw [hb] at hc
      simp only [cond_true, Option.some.injEq] at hc
      subst hc
      have hlen := (beq_iff _ _).1 hb
      have h2 := (hLR.drop o).take n
      have h3 := h2.len
      rw [hlen] at h3
      refine ⟨_, h3, h2, ?_⟩
      · intro j v hj
        have hj' := hj
        rw [List.getElem?_take] at hj'
        split at hj'
        · rename_i hjn
          rw [List.getElem?_drop, List.getElem?_take] at hj'
          split at hj'
          · have hadd : (⟨b, o, none⟩ : Addr).add j = ⟨b, o + j, none⟩ := by unfold Addr.add; split <;> simp_all
            rw [hadd, cell?_of hw]
            simpa using hj'
          · simp at hj'
        · simp at hj'
  · simp at hc

/-- The abstract heap with a new block of cells. -/
def AH.withCells (H : AH) (elem : TypeId) (cs : AV) : AH :=
  { res := H.res, next := H.next + 1, objs := Tr.set deep H.objs H.next (some (.cells H.next 0 elem cs)), fams := Tr.set deep H.fams H.next (some (H.next, 0)) }
theorem newCells_eq {β : Type} (H : AH) (elem : TypeId) (cs : AV) (k : Nat → AH → β) : H.newCells elem cs k = k H.next (H.withCells elem cs) := by
  simp [AH.newCells, AH.withCells, Tr.setK_eq]

def AH.withNew (H : AH) (o : AObj) : AH := { res := H.res, next := H.next + 1, objs := Tr.set deep H.objs H.next (some o), fams := H.fams }
theorem newObj_eq {β : Type} (H : AH) (o : AObj) (k : Nat → AH → β) : H.newObj o k = k H.next (H.withNew o) := by
  simp [AH.newObj, AH.withNew, Tr.setK_eq]

def AH.set (H : AH) (i : Nat) (o : AObj) : AH := { res := H.res, next := H.next, objs := Tr.set deep H.objs i (some o), fams := H.fams }
theorem withObj_eq {β : Type} (H : AH) (i : Nat) (o : AObj) (k : AH → β) : H.withObj i o k = k (H.set i o) := by
  simp [AH.withObj, AH.set, Tr.setK_eq]

def Mu.add (μ : Mu) (i b N : Nat) : Mu := ⟨fun j => if j = i then some (b, N) else μ j, μ.hd⟩
theorem Mu.le_add {μ : Mu} {i b N : Nat} (h : μ i = none) : μ.le (μ.add i b N) := by
  refine ⟨?_, fun _ _ h => h⟩
  intro j l e
  simp only [Mu.add]
  split
  · rename_i hj; subst hj; rw [h] at e; cases e
  · exact e
/-- What a part of a run does to the numbers: none that was free before is taken. -/
def Ext (H : AH) (μ : Mu) (H' : AH) (μ' : Mu) : Prop := μ.le μ' ∧ H.next ≤ H'.next ∧ ∀ i, i < H.next → μ i = none → μ' i = none
theorem Ext.refl (H : AH) (μ : Mu) : Ext H μ H μ := ⟨.refl μ, Nat.le_refl _, fun _ _ h => h⟩
theorem Ext.same {H H' : AH} (μ : Mu) (h : H'.next = H.next) : Ext H μ H' μ := ⟨.refl μ, by omega, fun _ _ h => h⟩
theorem Ext.trans {H H1 H2 : AH} {μ μ1 μ2 : Mu} (h : Ext H μ H1 μ1) (k : Ext H1 μ1 H2 μ2) : Ext H μ H2 μ2 :=
  ⟨h.1.trans k.1, Nat.le_trans h.2.1 k.2.1, fun i hi hn => k.2.2 i (Nat.lt_of_lt_of_le hi h.2.1) (h.2.2 i hi hn)⟩
theorem Ext.add {H H' : AH} {μ : Mu} {b N : Nat} (hn : μ H.next = none) (h : H.next ≤ H'.next) : Ext H μ H' (μ.add H.next b N) :=
  ⟨Mu.le_add hn, h, fun i hi hu => by simp only [Mu.add]; rw [if_neg (by omega)]; exact hu⟩
theorem Mu.add_cases {μ : Mu} {i b N j : Nat} {l : Nat × Nat} (h : μ.add i b N j = some l) : (j = i ∧ l = (b, N)) ∨ (j ≠ i ∧ μ j = some l) := by
  simp only [Mu.add] at h
  split at h
  · simp at h; exact .inl ⟨by assumption, h.symm⟩
  · exact .inr ⟨by assumption, h⟩

theorem Rep.notYet (h : Rep P B w0 G μ H w) {i : Nat} (hi : H.next ≤ i) : μ i = none := by
  cases e : μ i with
  | none => rfl
  | some l => have := (h.dom i l.1 l.2 e).1; omega

theorem heap_alloc_old (w : World) (o : Obj) {b : Nat} {x : Obj} (h : w.heap[b]? = some x) : (w.alloc o).heap[b]? = some x := by
  have hb : b < w.heap.size := (Array.getElem?_eq_some_iff.1 h).1
  rw [Below.heap_alloc w o b hb]; exact h
theorem heap_alloc_new (w : World) (o : Obj) : (w.alloc o).heap[w.heap.size]? = some o := by
  show (w.heap.push o)[w.heap.size]? = _
  simp

/-- What the model's object is to an abstract one. -/
structure Fits (P : Program) (R : List TypeId) (μ : Mu) (oi : AObj) (o : Obj) (N : Nat) : Prop where
  nopq : ∀ t, oi ≠ .opq t
  free : ∀ arr te fz, o = .cells arr te fz → R.contains te = false
  cells : ∀ fam ver e cs, oi = .cells fam ver e cs → ∃ arr te, o = .cells arr te (0, 0) ∧ arr.size = N ∧ cs.len ≤ N ∧ LR μ cs (arr.toList.take cs.len)
  map : ∀ kt es, oi = .map kt es → ∃ en cl, o = .map en cl ∧ ER P μ kt es en.toList
  loop : ∀ st pend fn nt T ps as bd dd, oi = .loop st pend fn nt T ps as bd dd →
    ∃ L d M, o = .loop L ∧ L.state = st ∧ L.pending = pend ∧ TR μ nt T L.tmps ∧ L.params.toList = ps ∧ L.assign = as ∧ L.body = bd ∧ μ dd = some (d, M) ∧ L.defers = d
  defd : ∀ op, oi = .defd op → o = .deferred (if op = true then some [] else none)

/-- An object that the abstract heap has laid is laid in the model. -/
theorem Rep.bind (h : Rep P B w0 G μ H w) {i N : Nat} {oi : AObj} {o : Obj} (hi : i < H.next) (ho : ∀ o, H.objs.get i = some o → o = oi) (hun : μ i = none) (hfit : Fits P G.res μ oi o N) :
    Rep P B w0 G (μ.add i w.heap.size N) H (w.alloc o) := by
  have hle : μ.le (μ.add i w.heap.size N) := Mu.le_add hun
  have hlt : ∀ {j b N}, μ j = some (b, N) → b < w.heap.size := fun e => (h.dom _ _ _ e).2
  have hB := h.baseNow
  refine ⟨h.resd, h.hdom, ?fact, ?free, h.below.alloc hB _, h.base, ?dom, ?glob, h.own, ?sep, h.vtop, ?tip, ?write, ?cells, ?map, ?loop, ?defd⟩
  case fact =>
    intro j t hj
    obtain ⟨v, h1, h2⟩ := h.fact j t hj
    exact ⟨v, h1, G.stable _ _ _ _ (fun b cs e fz q _ => heap_alloc_old _ _ q) h2⟩
  case free =>
    intro j b N hj hb cs e fz q
    rcases Mu.add_cases hj with ⟨rfl, he⟩ | ⟨_, hj⟩
    · cases he
      rw [heap_alloc_new] at q
      exact hfit.free _ _ _ (Option.some.inj q)
    · refine h.free _ _ _ hj hb cs e fz ?_
      rw [Below.heap_alloc w o b (hlt hj)] at q
      exact q
  case dom =>
    intro j b N hj
    rcases Mu.add_cases hj with ⟨rfl, he⟩ | ⟨_, hj⟩
    · cases he; exact ⟨hi, by rw [World.size_alloc]; omega⟩
    · have := h.dom _ _ _ hj; exact ⟨this.1, by rw [World.size_alloc]; omega⟩
  case glob =>
    intro g hg
    obtain ⟨N, e⟩ := h.glob g hg
    exact ⟨N, hle _ _ e⟩
  case sep =>
    intro a c oa oc b N M ha hc hma hmc
    rcases Mu.add_cases hma with ⟨ea', he⟩ | ⟨hna, hma'⟩ <;> rcases Mu.add_cases hmc with ⟨ec', he'⟩ | ⟨hnc, hmc'⟩
    · subst ea'; rw [ec'] at hc; rw [ha] at hc; cases hc; rw [ec']
    · cases he; have := hlt hmc'; omega
    · cases he'; have := hlt hma'; omega
    · exact h.sep _ _ _ _ _ _ _ ha hc hma' hmc'
  case tip =>
    intro a c fam va ea ca vc ec cc lw b N M ha hc hfam hl hma hmc
    rcases Mu.add_cases hma with ⟨ea', he⟩ | ⟨hna, hma'⟩ <;> rcases Mu.add_cases hmc with ⟨ec', he'⟩ | ⟨hnc, hmc'⟩
    · subst ea'; rw [ec'] at hc; rw [ha] at hc; cases hc; exact Nat.le_refl _
    · cases he; have := hlt hmc'; omega
    · cases he'; have := hlt hma'; omega
    · exact h.tip _ _ _ _ _ _ _ _ _ _ _ _ _ ha hc hfam hl hma' hmc'
  case write =>
    intro a fam ver ea ca lw b N ha hfam hma
    rcases Mu.add_cases hma with ⟨rfl, he⟩ | ⟨hna, hma⟩
    · cases he; exact hB
    · exact h.write _ _ _ _ _ _ _ _ ha hfam hma
  case cells =>
    intro a fam ver ea ca tip lw b N ha hfam hl hma
    rcases Mu.add_cases hma with ⟨rfl, he⟩ | ⟨hna, hma⟩
    · cases he
      have hoi := ho _ ha; subst hoi
      obtain ⟨arr, te, rfl, h2, h3, h4⟩ := hfit.cells _ _ _ _ rfl
      exact ⟨arr, te, (0, 0), heap_alloc_new _ _, h2, h3, h4.mono hle, fun _ => rfl⟩
    · obtain ⟨arr', te', fz, h1, h2, h3, h4, h5⟩ := h.cells _ _ _ _ _ _ _ _ _ ha hfam hl hma
      exact ⟨arr', te', fz, heap_alloc_old _ _ h1, h2, h3, h4.mono hle, h5⟩
  case map =>
    intro a kt es b N ha hma
    rcases Mu.add_cases hma with ⟨rfl, he⟩ | ⟨hna, hma⟩
    · cases he
      have hoi := ho _ ha; subst hoi
      obtain ⟨en, cl, rfl, h2⟩ := hfit.map _ _ rfl
      exact ⟨hB, en, cl, heap_alloc_new _ _, h2.mono hle⟩
    · obtain ⟨h1, en, cl, h2, h3⟩ := h.map _ _ _ _ _ ha hma
      exact ⟨h1, en, cl, heap_alloc_old _ _ h2, h3.mono hle⟩
  case loop =>
    intro a st pend fn nt T ps as bd dd b N ha hma
    rcases Mu.add_cases hma with ⟨rfl, he⟩ | ⟨hna, hma⟩
    · cases he
      have hoi := ho _ ha; subst hoi
      obtain ⟨L, d, M, rfl, h3, h4, h5, h6, h7, h8, h9, h10⟩ := hfit.loop _ _ _ _ _ _ _ _ _ rfl
      exact ⟨hB, L, d, M, heap_alloc_new _ _, h3, h4, h5.mono hle, h6, h7, h8, hle _ _ h9, h10⟩
    · obtain ⟨h1, L, d, M, h2, h3, h4, h5, h6, h7, h8, h9, h10⟩ := h.loop _ _ _ _ _ _ _ _ _ _ _ _ ha hma
      exact ⟨h1, L, d, M, heap_alloc_old _ _ h2, h3, h4, h5.mono hle, h6, h7, h8, hle _ _ h9, h10⟩
  case defd =>
    intro a op b N ha hma
    rcases Mu.add_cases hma with ⟨rfl, he⟩ | ⟨hna, hma⟩
    · cases he
      have hoi := ho _ ha; subst hoi
      exact ⟨hB, by rw [hfit.defd _ rfl]; exact heap_alloc_new _ _⟩
    · obtain ⟨h1, h2⟩ := h.defd _ _ _ _ ha hma
      exact ⟨h1, heap_alloc_old _ _ h2⟩

/-- The abstract heap alone has a new object. -/
theorem Rep.lay (h : Rep P B w0 G μ H w) {H' : AH} (hr : H'.res = H.res) (hno : ∀ t, H'.objs.get H.next ≠ some (.opq t)) (hn : H'.next = H.next + 1)
    (hobj : ∀ i o, H'.objs.get i = some o → (i = H.next ∧ o.cls i = H.next) ∨ (i < H.next ∧ H.objs.get i = some o))
    (hfam : ∀ f t lw, H'.fams.get f = some (t, lw) → (f = H.next ∧ t = H.next) ∨ H.fams.get f = some (t, lw)) : Rep P B w0 G μ H' w := by
  have hun := h.notYet (i := H.next) (Nat.le_refl _)
  have old : ∀ {i o b N}, H'.objs.get i = some o → μ i = some (b, N) → H.objs.get i = some o := by
    intro i o b N ho hm
    rcases hobj _ _ ho with ⟨rfl, _⟩ | ⟨_, ho⟩
    · rw [hun] at hm; cases hm
    · exact ho
  have oldf : ∀ {i o f t lw}, H.objs.get i = some o → o.cls i = f → H'.fams.get f = some (t, lw) → H.fams.get f = some (t, lw) := by
    intro i o f t lw ho hc hf
    rcases hfam _ _ _ hf with ⟨rfl, _⟩ | hf
    · have := (h.own _ _ ho).2; omega
    · exact hf
  refine ⟨hr.trans h.resd, fun i v e => by have := h.hdom i v e; omega, ?fact, h.free, h.below, h.base, fun i b N e => ⟨by have := (h.dom i b N e).1; omega, (h.dom i b N e).2⟩, h.glob, ?own, ?sep, ?vtop, ?tip, ?write, ?cells, ?map, ?loop, ?defd⟩
  case fact =>
    intro i t ho
    rcases hobj _ _ ho with ⟨rfl, hc⟩ | ⟨_, ho'⟩
    · exact absurd ho (hno t)
    · exact h.fact _ _ ho'
  case own =>
    intro i o ho
    rcases hobj _ _ ho with ⟨rfl, hc⟩ | ⟨_, ho⟩
    · omega
    · have := h.own _ _ ho; omega
  case sep => exact fun i j oi oj b N M h1 h2 h3 h4 => h.sep i j oi oj b N M (old h1 h3) (old h2 h4) h3 h4
  case vtop =>
    intro i j fam vi ei ci vj ej cj lw h1 h2 h3 hne
    rcases hobj _ _ h1 with ⟨rfl, hc1⟩ | ⟨hi1, ho1⟩ <;> rcases hobj _ _ h2 with ⟨rfl, hc2⟩ | ⟨hi2, ho2⟩
    · exact absurd rfl hne
    · have := (h.own _ _ ho2).2; simp [AObj.cls] at this hc1; omega
    · have := (h.own _ _ ho1).2; simp [AObj.cls] at this hc2; omega
    · exact h.vtop _ _ _ _ _ _ _ _ _ _ ho1 ho2 (oldf ho1 rfl h3) hne
  case tip => exact fun i j fam vi ei ci vj ej cj lw b N M h1 h2 h3 h4 h5 h6 => h.tip _ _ _ _ _ _ _ _ _ _ _ _ _ (old h1 h5) (old h2 h6) (oldf (old h1 h5) rfl h3) h4 h5 h6
  case write => exact fun i fam ver e cs lw b N h1 h2 h3 => h.write _ _ _ _ _ _ _ _ (old h1 h3) (oldf (old h1 h3) rfl h2) h3
  case cells => exact fun i fam ver e cs tip lw b N h1 h2 h3 h4 => h.cells _ _ _ _ _ _ _ _ _ (old h1 h4) (oldf (old h1 h4) rfl h2) h3 h4
  case map => exact fun i kt es b N h1 h2 => h.map _ _ _ _ _ (old h1 h2) h2
  case loop => exact fun i st pend fn nt T ps as bd dd b N h1 h2 => h.loop _ _ _ _ _ _ _ _ _ _ _ _ (old h1 h2) h2
  case defd => exact fun i op b N h1 h2 => h.defd _ _ _ _ (old h1 h2) h2

theorem Rep.layCells (h : Rep P B w0 G μ H w) (e : TypeId) (cs : AV) : Rep P B w0 G μ (H.withCells e cs) w := by
  refine h.lay rfl (fun t q => ?_) rfl ?_ ?_
  · rcases Tr.get_set deep H.objs H.next (some (.cells H.next 0 e cs)) H.next (.opq t) q with ⟨_, q⟩ | ⟨q, _⟩
    · cases q
    · exact q rfl
  · intro i o ho
    rcases Tr.get_set deep H.objs H.next (some (.cells H.next 0 e cs)) i o ho with ⟨hi, ho⟩ | ⟨_, ho⟩
    · cases ho; exact .inl ⟨hi, rfl⟩
    · exact .inr ⟨(h.own _ _ ho).1, ho⟩
  · intro f t lw hf
    rcases Tr.get_set deep H.fams H.next (some (H.next, 0)) f (t, lw) hf with ⟨hi, hf⟩ | ⟨hne, hf⟩
    · cases hf; exact .inl ⟨hi, rfl⟩
    · exact .inr hf

theorem Rep.layObj (h : Rep P B w0 G μ H w) (o : AObj) (hc : ∀ f v e c, o ≠ .cells f v e c) (hq : ∀ t, o ≠ .opq t := by simp) : Rep P B w0 G μ (H.withNew o) w := by
  refine h.lay rfl (fun t q => ?_) rfl ?_ ?_
  · rcases Tr.get_set deep H.objs H.next (some o) H.next (.opq t) q with ⟨_, q⟩ | ⟨q, _⟩
    · exact hq t (Option.some.inj q)
    · exact q rfl
  · intro i o' ho
    rcases Tr.get_set deep H.objs H.next (some o) i o' ho with ⟨hi, ho⟩ | ⟨_, ho⟩
    · cases ho
      refine .inl ⟨hi, ?_⟩
      cases o with
      | cells f v e c => exact absurd rfl (hc f v e c)
      | _ => simpa [AObj.cls] using hi
    · exact .inr ⟨(h.own _ _ ho).1, ho⟩
  · exact fun f t lw hf => .inr hf

/-! ### Objects that are changed in place -/
theorem heap_set_same {w : World} {b : Nat} {o o' : Obj} (h : w.heap[b]? = some o) : (w.heap.setIfInBounds b o')[b]? = some o' := by
  have hb : b < w.heap.size := (Array.getElem?_eq_some_iff.1 h).1
  simp [hb]
theorem heap_set_other {w : World} {b c : Nat} {o' : Obj} (h : c ≠ b) : (w.heap.setIfInBounds b o')[c]? = w.heap[c]? := by
  simp [Ne.symm h]

/-- The model's world with another object in a block. -/
def withObjAt (w : World) (b : Nat) (o : Obj) : World := { w with heap := w.heap.setIfInBounds b o }

/-- An object that is no cells is changed on both sides. -/
theorem Rep.setObj (h : Rep P B w0 G μ H w) {i b N : Nat} {oi oj : AObj} {o : Obj} (ho : H.objs.get i = some oi) (hm : μ i = some (b, N)) (hb : B ≤ b)
    (hni : ∀ f v e c, oi ≠ .cells f v e c) (hnq : ∀ t, oi ≠ .opq t) (hnj : ∀ f v e c, oj ≠ .cells f v e c) (hfit : Fits P G.res μ oj o N) :
    Rep P B w0 G μ (H.set i oj) (withObjAt w b o) := by
  have hbs : b < w.heap.size := (h.dom _ _ _ hm).2
  have hcls : ∀ (o : AObj) k, (∀ f v e c, o ≠ .cells f v e c) → o.cls k = k := by
    intro o k hk
    cases o with
    | cells f v e c => exact absurd rfl (hk f v e c)
    | _ => rfl
  have hob : ∃ x, w.heap[b]? = some x ∧ ∀ arr te fz, x ≠ .cells arr te fz := by
    cases oi with
    | cells f v e c => exact absurd rfl (hni f v e c)
    | map kt es => obtain ⟨_, en, cl, h1, _⟩ := h.map _ _ _ _ _ ho hm; exact ⟨_, h1, by simp⟩
    | loop st pend fn nt T ps as bd dd => obtain ⟨_, L, d, M, h1, _⟩ := h.loop _ _ _ _ _ _ _ _ _ _ _ _ ho hm; exact ⟨_, h1, by simp⟩
    | defd op => obtain ⟨_, h1⟩ := h.defd _ _ _ _ ho hm; exact ⟨_, h1, by simp⟩
    | opq t => exact absurd rfl (hnq t)
  have get : ∀ {j o'}, (H.set i oj).objs.get j = some o' → (j = i ∧ oj = o') ∨ (j ≠ i ∧ H.objs.get j = some o') := by
    intro j o' e
    rcases Tr.get_set deep H.objs i (some oj) j o' e with ⟨h1, h2⟩ | h2
    · exact .inl ⟨h1, by simpa using h2⟩
    · exact .inr h2
  have getC : ∀ {j f v e c}, (H.set i oj).objs.get j = some (.cells f v e c) → H.objs.get j = some (.cells f v e c) := by
    intro j f v e c he
    rcases get he with ⟨_, h2⟩ | ⟨_, h2⟩
    · exact absurd h2 (hnj _ _ _ _)
    · exact h2
  have clsOld : ∀ {j o'}, (H.set i oj).objs.get j = some o' → ∃ o'', H.objs.get j = some o'' ∧ o''.cls j = o'.cls j := by
    intro j o' e
    rcases get e with ⟨rfl, rfl⟩ | ⟨_, h2⟩
    · exact ⟨oi, ho, by rw [hcls _ _ hni, hcls _ _ hnj]⟩
    · exact ⟨_, h2, rfl⟩
  have apart : ∀ {j o' c M}, (H.set i oj).objs.get j = some o' → j ≠ i → μ j = some (c, M) → (∀ f v e c, o' ≠ .cells f v e c) → c ≠ b := by
    intro j o' c M e hne hmj hno hcb
    subst hcb
    rcases get e with ⟨h1, _⟩ | ⟨_, h2⟩
    · exact hne h1
    · have := h.sep _ _ _ _ _ _ _ h2 ho hmj hm
      rw [hcls _ _ hno, hcls _ _ hni] at this
      exact hne this
  refine ⟨h.resd, h.hdom, ?gfact, ?gfree, h.below.trans ⟨rfl, rfl, rfl, by simp [withObjAt], fun k hk => heap_set_other (by omega)⟩, h.base, ?gdom, h.glob, ?gown, ?gsep, ?gvtop, ?gtip, ?gwrite, ?gcells, ?gmap, ?gloop, ?gdefd⟩
  case gfact =>
    intro j t e
    rcases get e with ⟨_, h2⟩ | ⟨_, h2⟩
    · exact absurd h2 (hfit.nopq t)
    · obtain ⟨v, h3, h4⟩ := h.fact _ _ h2
      refine ⟨v, h3, G.stable _ _ _ _ (fun c cs te fz q _ => ?_) h4⟩
      rw [withObjAt, heap_set_other (by
        rintro rfl
        obtain ⟨x, hx, hx'⟩ := hob
        rw [q] at hx; cases hx
        exact hx' _ _ _ rfl)]
      exact q
  case gfree =>
    intro j c M e hc cs te fz q
    by_cases hcb : c = b
    · subst hcb
      rw [withObjAt, heap_set_same (hob.choose_spec.1)] at q
      exact hfit.free _ _ _ (Option.some.inj q)
    · rw [withObjAt, heap_set_other hcb] at q
      exact h.free _ _ _ e hc _ _ _ q
  case gdom => intro j c M e; have := h.dom _ _ _ e; exact ⟨this.1, by simpa [withObjAt] using this.2⟩
  case gown =>
    intro j o' e
    obtain ⟨o'', h1, h2⟩ := clsOld e
    have := h.own _ _ h1
    exact ⟨this.1, h2 ▸ this.2⟩
  case gsep =>
    intro j k o1 o2 c M1 M2 e1 e2 m1 m2
    obtain ⟨p1, h1, h2⟩ := clsOld e1
    obtain ⟨p2, h3, h4⟩ := clsOld e2
    rw [← h2, ← h4]
    exact h.sep _ _ _ _ _ _ _ h1 h3 m1 m2
  case gvtop => exact fun a c fam vi ei ci vj ej cj lw e1 e2 e3 => h.vtop _ _ _ _ _ _ _ _ _ _ (getC e1) (getC e2) e3
  case gtip => exact fun a c fam vi ei ci vj ej cj lw b' N' M' e1 e2 e3 => h.tip _ _ _ _ _ _ _ _ _ _ _ _ _ (getC e1) (getC e2) e3
  case gwrite => exact fun a fam ver e cs lw b' N' e1 e2 => h.write _ _ _ _ _ _ _ _ (getC e1) e2
  case gcells =>
    intro a fam ver e cs tip lw b' N' e1 e2 e3 e4
    obtain ⟨arr, te, fz, h1, h2⟩ := h.cells _ _ _ _ _ _ _ _ _ (getC e1) e2 e3 e4
    have hne : b' ≠ b := by
      intro hcb; subst hcb
      obtain ⟨x, hx, hx'⟩ := hob
      rw [h1] at hx; cases hx
      exact hx' _ _ _ rfl
    exact ⟨arr, te, fz, by rw [withObjAt, heap_set_other hne]; exact h1, h2⟩
  case gmap =>
    intro a kt es b' N' e1 e2
    by_cases hai : a = i
    · subst hai
      rcases get e1 with ⟨_, rfl⟩ | ⟨hne, _⟩
      · rw [hm] at e2; cases e2
        obtain ⟨en, cl, rfl, h2⟩ := hfit.map _ _ rfl
        exact ⟨hb, en, cl, by rw [withObjAt]; simp [hbs], h2⟩
      · exact absurd rfl hne
    · have hne := apart e1 hai e2 (fun _ _ _ _ => by simp)
      rcases get e1 with ⟨h1, _⟩ | ⟨_, h1⟩
      · exact absurd h1 hai
      · obtain ⟨h2, en, cl, h3, h4⟩ := h.map _ _ _ _ _ h1 e2
        exact ⟨h2, en, cl, by rw [withObjAt, heap_set_other hne]; exact h3, h4⟩
  case gloop =>
    intro a st pend fn nt T ps as bd dd b' N' e1 e2
    by_cases hai : a = i
    · subst hai
      rcases get e1 with ⟨_, rfl⟩ | ⟨hne, _⟩
      · rw [hm] at e2; cases e2
        obtain ⟨L, d, M, rfl, h2⟩ := hfit.loop _ _ _ _ _ _ _ _ _ rfl
        exact ⟨hb, L, d, M, by rw [withObjAt]; simp [hbs], h2⟩
      · exact absurd rfl hne
    · have hne := apart e1 hai e2 (fun _ _ _ _ => by simp)
      rcases get e1 with ⟨h1, _⟩ | ⟨_, h1⟩
      · exact absurd h1 hai
      · obtain ⟨h2, L, d, M, h3, h4⟩ := h.loop _ _ _ _ _ _ _ _ _ _ _ _ h1 e2
        exact ⟨h2, L, d, M, by rw [withObjAt, heap_set_other hne]; exact h3, h4⟩
  case gdefd =>
    intro a op b' N' e1 e2
    by_cases hai : a = i
    · subst hai
      rcases get e1 with ⟨_, rfl⟩ | ⟨hne, _⟩
      · rw [hm] at e2; cases e2
        exact ⟨hb, by rw [withObjAt, hfit.defd _ rfl]; simp [hbs]⟩
      · exact absurd rfl hne
    · have hne := apart e1 hai e2 (fun _ _ _ _ => by simp)
      rcases get e1 with ⟨h1, _⟩ | ⟨_, h1⟩
      · exact absurd h1 hai
      · obtain ⟨h2, h3⟩ := h.defd _ _ _ _ h1 e2
        exact ⟨h2, by rw [withObjAt, heap_set_other hne]; exact h3⟩

end
end Go.Eng
