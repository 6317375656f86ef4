/-
  The abstract machine's tables and forcing; the relation between its values and heaps and those of the model.
  Conditions: none; lemmas for the soundness proof.
-/
import Derived.Test.YtjcmalmcijpnnaaDoorEngA
import Derived.Below
import Derived.RangeFuncCalls
namespace Go.Eng
open Go.RowKit

/-! ### Tables -/
def Tr.set {α : Type} : Nat → Tr α → Nat → Option α → Tr α
  | 0, _, _, _ => .nil
  | f + 1, .nil, n, x =>
    bif Nat.beq n 0 then .node .nil x .nil
    else bif Nat.beq (n % 2) 1 then .node (Tr.set f .nil (n / 2) x) none .nil
    else .node .nil none (Tr.set f .nil (n / 2 - 1) x)
  | f + 1, .node l v r, n, x =>
    bif Nat.beq n 0 then .node l x r
    else bif Nat.beq (n % 2) 1 then .node (Tr.set f l (n / 2) x) v r
    else .node l v (Tr.set f r (n / 2 - 1) x)

theorem Tr.setK_eq {α : Type} (f : Nat) : ∀ {β : Type} (t : Tr α) (n : Nat) (x : Option α) (k : Tr α → β), Tr.setK f t n x k = k (Tr.set f t n x) := by
  induction f with
  | zero => intro β t n x k; rfl
  | succ f ih =>
    intro β t n x k
    cases t <;> simp only [Tr.set, Tr.setK, ih] <;> cases Nat.beq n 0 <;> cases Nat.beq (n % 2) 1 <;> rfl

theorem beq_iff (m n : Nat) : Nat.beq m n = true ↔ m = n := ⟨Nat.eq_of_beq_eq_true, fun h => h ▸ Nat.beq_refl m⟩
theorem beq_false (m n : Nat) : Nat.beq m n = false ↔ m ≠ n := by
  have := beq_iff m n
  cases h : Nat.beq m n <;> simp_all

theorem Tr.get_set {α : Type} (f : Nat) : ∀ (t : Tr α) (n : Nat) (x : Option α) (m : Nat) (v : α), (Tr.set f t n x).get m = some v → (m = n ∧ x = some v) ∨ (m ≠ n ∧ t.get m = some v) := by
  induction f with
  | zero => intro t n x m v h; simp [Tr.set, Tr.get] at h
  | succ f ih =>
    intro t n x m v h
    cases t with
    | nil =>
      simp only [Tr.set] at h
      cases hn : Nat.beq n 0 with
      | true =>
        rw [hn] at h
        simp only [cond_true, Tr.get] at h
        have hn0 := (beq_iff _ _).1 hn
        cases hm : Nat.beq m 0 with
        | true => rw [hm] at h; have := (beq_iff _ _).1 hm; left; exact ⟨by omega, h⟩
        | false => rw [hm] at h; cases Nat.beq (m % 2) 1 <;> simp at h
      | false =>
        have hn0 := (beq_false _ _).1 hn
        rw [hn] at h
        cases hp : Nat.beq (n % 2) 1 with
        | true =>
          rw [hp] at h
          have hp1 := (beq_iff _ _).1 hp
          simp only [cond_true, cond_false, Tr.get] at h
          cases hm : Nat.beq m 0 with
          | true => rw [hm] at h; simp at h
          | false =>
            have hm0 := (beq_false _ _).1 hm
            rw [hm] at h
            cases hq : Nat.beq (m % 2) 1 with
            | false => rw [hq] at h; simp at h
            | true =>
              have hq1 := (beq_iff _ _).1 hq
              rw [hq] at h
              simp only [cond_true, cond_false] at h
              rcases ih _ _ _ _ _ h with ⟨h1, h2⟩ | ⟨_, h2⟩
              · left; exact ⟨by omega, h2⟩
              · simp [Tr.get] at h2
        | false =>
          rw [hp] at h
          have hp1 := (beq_false _ _).1 hp
          simp only [cond_false, Tr.get] at h
          cases hm : Nat.beq m 0 with
          | true => rw [hm] at h; simp at h
          | false =>
            have hm0 := (beq_false _ _).1 hm
            rw [hm] at h
            cases hq : Nat.beq (m % 2) 1 with
            | true => rw [hq] at h; simp at h
            | false =>
              have hq1 := (beq_false _ _).1 hq
              rw [hq] at h
              simp only [cond_false] at h
              rcases ih _ _ _ _ _ h with ⟨h1, h2⟩ | ⟨_, h2⟩
              · left; exact ⟨by omega, h2⟩
              · simp [Tr.get] at h2
    | node l u r =>
      simp only [Tr.set] at h
      cases hn : Nat.beq n 0 with
      | true =>
        rw [hn] at h
        simp only [cond_true, Tr.get] at h ⊢
        have hn0 := (beq_iff _ _).1 hn
        cases hm : Nat.beq m 0 with
        | true => rw [hm] at h; have := (beq_iff _ _).1 hm; left; exact ⟨by omega, h⟩
        | false => rw [hm] at h; have := (beq_false _ _).1 hm; right; exact ⟨by omega, h⟩
      | false =>
        have hn0 := (beq_false _ _).1 hn
        rw [hn] at h
        cases hp : Nat.beq (n % 2) 1 with
        | true =>
          rw [hp] at h
          have hp1 := (beq_iff _ _).1 hp
          simp only [cond_true, cond_false, Tr.get] at h ⊢
          cases hm : Nat.beq m 0 with
          | true => rw [hm] at h; have := (beq_iff _ _).1 hm; right; exact ⟨by omega, h⟩
          | false =>
            have hm0 := (beq_false _ _).1 hm
            rw [hm] at h
            cases hq : Nat.beq (m % 2) 1 with
            | false => rw [hq] at h; have := (beq_false _ _).1 hq; right; exact ⟨by omega, h⟩
            | true =>
              have hq1 := (beq_iff _ _).1 hq
              rw [hq] at h
              simp only [cond_true, cond_false] at h ⊢
              rcases ih _ _ _ _ _ h with ⟨h1, h2⟩ | ⟨h1, h2⟩
              · left; exact ⟨by omega, h2⟩
              · right; exact ⟨by omega, h2⟩
        | false =>
          rw [hp] at h
          have hp1 := (beq_false _ _).1 hp
          simp only [cond_false, Tr.get] at h ⊢
          cases hm : Nat.beq m 0 with
          | true => rw [hm] at h; have := (beq_iff _ _).1 hm; right; exact ⟨by omega, h⟩
          | false =>
            have hm0 := (beq_false _ _).1 hm
            rw [hm] at h
            cases hq : Nat.beq (m % 2) 1 with
            | true => rw [hq] at h; have := (beq_iff _ _).1 hq; right; exact ⟨by omega, h⟩
            | false =>
              have hq1 := (beq_false _ _).1 hq
              rw [hq] at h
              simp only [cond_false] at h ⊢
              rcases ih _ _ _ _ _ h with ⟨h1, h2⟩ | ⟨h1, h2⟩
              · left; exact ⟨by omega, h2⟩
              · right; exact ⟨by omega, h2⟩

/-! ### Forcing changes nothing -/
@[simp] theorem fN_eq {β : Type} (n : Nat) (k : Nat → β) : fN n k = k n := by cases n <;> rfl
@[simp] theorem fI_eq {β : Type} (n : Int) (k : Int → β) : fI n k = k n := by cases n <;> simp [fI]
@[simp] theorem fB_eq {β : Type} (b : Bool) (k : Bool → β) : fB b k = k b := by cases b <;> rfl
@[simp] theorem fBytes_eq {β : Type} (l : List UInt8) : ∀ (k : List UInt8 → β), fBytes l k = k l := by
  induction l with
  | nil => intro k; rfl
  | cons b t ih => intro k; simp [fBytes, ih]
@[simp] theorem Sc.force_eq {β : Type} (s : Sc) (k : Sc → β) : s.force k = k s := by
  cases s <;> simp [Sc.force]
@[simp] theorem AV.force_eq {β : Type} (v : AV) : ∀ (k : AV → β), v.force k = k v := by
  induction v <;> intro k <;> simp_all [AV.force]

/-! ### Values -/
abbrev Mu := Nat → Option (Nat × Nat)
def Mu.le (μ ν : Mu) : Prop := ∀ i l, μ i = some l → ν i = some l
theorem Mu.le.refl (μ : Mu) : μ.le μ := fun _ _ h => h
theorem Mu.le.trans {μ ν ξ : Mu} (h : μ.le ν) (k : ν.le ξ) : μ.le ξ := fun i l e => k i l (h i l e)

/-- What a value of the abstract machine stands for: as a value; as a list of cells. -/
def Rel (μ : Mu) : AV → (Value → Prop) × (List Value → Prop)
  | .sc s => (fun x => x = s.val, fun _ => False)
  | .ptr i o => (fun x => ∃ b N, μ i = some (b, N) ∧ x = .pointer (some ⟨b, o, none⟩), fun _ => False)
  | .slc i o len cm ex esz => (fun x => ∃ b N c, μ i = some (b, N) ∧ x = .slice (some ⟨b, o, none⟩) len c ∧ cm ≤ c ∧ (ex = true → c = cm) ∧ o + c * esz ≤ N ∧ len ≤ cm, fun _ => False)
  | .map i => (fun x => ∃ b N, μ i = some (b, N) ∧ x = .map (some b), fun _ => False)
  | .yield i => (fun x => ∃ b N, μ i = some (b, N) ∧ x = .func (.yield b) #[] #[], fun _ => False)
  | .fn f fs cs => (fun x => ∃ xs ys, x = .func (.func f) xs ys ∧ (Rel μ fs).2 xs.toList ∧ (Rel μ cs).2 ys.toList, fun _ => False)
  | .iface t v => (fun x => ∃ y, x = .iface t y ∧ (Rel μ v).1 y, fun _ => False)
  | .agg cs => (fun x => ∃ xs, x = .agg xs ∧ (Rel μ cs).2 xs.toList, fun _ => False)
  | .tup cs => (fun x => ∃ xs, x = .tuple xs ∧ (Rel μ cs).2 xs.toList, fun _ => False)
  | .nil => (fun _ => False, fun xs => xs = [])
  | .cons h t => (fun _ => False, fun xs => ∃ x r, xs = x :: r ∧ (Rel μ h).1 x ∧ (Rel μ t).2 r)

def VR (μ : Mu) (v : AV) (x : Value) : Prop := (Rel μ v).1 x
def LR (μ : Mu) (v : AV) (xs : List Value) : Prop := (Rel μ v).2 xs

theorem Rel.mono {μ ν : Mu} (h : μ.le ν) (v : AV) : (∀ x, (Rel μ v).1 x → (Rel ν v).1 x) ∧ (∀ xs, (Rel μ v).2 xs → (Rel ν v).2 xs) := by
  induction v with
  | sc s => exact ⟨fun _ h => h, fun _ h => h⟩
  | ptr i o => exact ⟨fun x ⟨b, N, e, hx⟩ => ⟨b, N, h _ _ e, hx⟩, fun _ h => h⟩
  | slc i o len cm ex esz => exact ⟨fun x ⟨b, N, c, e, hx⟩ => ⟨b, N, c, h _ _ e, hx⟩, fun _ h => h⟩
  | map i => exact ⟨fun x ⟨b, N, e, hx⟩ => ⟨b, N, h _ _ e, hx⟩, fun _ h => h⟩
  | yield i => exact ⟨fun x ⟨b, N, e, hx⟩ => ⟨b, N, h _ _ e, hx⟩, fun _ h => h⟩
  | fn f fs cs ih1 ih2 => exact ⟨fun x ⟨xs, ys, e, h1, h2⟩ => ⟨xs, ys, e, ih1.2 _ h1, ih2.2 _ h2⟩, fun _ h => h⟩
  | iface t v ih => exact ⟨fun x ⟨y, e, h1⟩ => ⟨y, e, ih.1 _ h1⟩, fun _ h => h⟩
  | agg cs ih => exact ⟨fun x ⟨y, e, h1⟩ => ⟨y, e, ih.2 _ h1⟩, fun _ h => h⟩
  | tup cs ih => exact ⟨fun x ⟨y, e, h1⟩ => ⟨y, e, ih.2 _ h1⟩, fun _ h => h⟩
  | nil => exact ⟨fun _ h => h, fun _ h => h⟩
  | cons a t ih1 ih2 => exact ⟨fun _ h => h, fun xs ⟨x, r, e, h1, h2⟩ => ⟨x, r, e, ih1.1 _ h1, ih2.2 _ h2⟩⟩

theorem VR.mono {μ ν : Mu} (h : μ.le ν) {v : AV} {x : Value} (hv : VR μ v x) : VR ν v x := (Rel.mono h v).1 x hv
theorem LR.mono {μ ν : Mu} (h : μ.le ν) {v : AV} {x : List Value} (hv : LR μ v x) : LR ν v x := (Rel.mono h v).2 x hv

section lists
variable {μ : Mu}
theorem LR.nil : LR μ .nil [] := rfl
theorem LR.cons {h t : AV} {x : Value} {r : List Value} (a : VR μ h x) (b : LR μ t r) : LR μ (.cons h t) (x :: r) := ⟨x, r, rfl, a, b⟩
theorem LR.len {v : AV} : ∀ {xs : List Value}, LR μ v xs → xs.length = v.len := by
  induction v with
  | nil => intro xs h; simp [LR, Rel] at h; simp [h, AV.len]
  | cons a t _ ih => rintro xs ⟨x, r, rfl, h1, h2⟩; simp [AV.len, ih h2]
  | _ => intro xs h; exact h.elim
theorem LR.nth {v : AV} : ∀ {xs : List Value} {n : Nat} {u : AV}, LR μ v xs → v.nth n = some u → ∃ x, xs[n]? = some x ∧ VR μ u x := by
  induction v with
  | cons a t _ ih =>
    rintro xs n u ⟨x, r, rfl, h1, h2⟩ hn
    cases n with
    | zero => simp [AV.nth] at hn; subst hn; exact ⟨x, rfl, h1⟩
    | succ n => simp only [AV.nth] at hn; obtain ⟨y, e, hy⟩ := ih h2 hn; exact ⟨y, by simpa using e, hy⟩
  | _ => intro xs n u _ hn; simp [AV.nth] at hn
theorem LR.nth' {v : AV} : ∀ {xs : List Value} {n : Nat} {x : Value}, LR μ v xs → xs[n]? = some x → ∃ u, v.nth n = some u ∧ VR μ u x := by
  induction v with
  | nil => intro xs n x h e; simp [LR, Rel] at h; simp [h] at e
  | cons a t _ ih =>
    rintro xs n u ⟨x, r, rfl, h1, h2⟩ hn
    cases n with
    | zero => simp at hn; subst hn; exact ⟨a, rfl, h1⟩
    | succ n => obtain ⟨y, e, hy⟩ := ih h2 (by simpa using hn); exact ⟨y, e, hy⟩
  | _ => intro xs n u h; exact h.elim
theorem LR.take {v : AV} : ∀ {xs : List Value} (n : Nat), LR μ v xs → LR μ (v.take n) (xs.take n) := by
  induction v with
  | nil => intro xs n h; simp [LR, Rel] at h; subst h; cases n <;> simp [AV.take, LR, Rel]
  | cons a t _ ih =>
    rintro xs n ⟨x, r, rfl, h1, h2⟩
    cases n with
    | zero => simp [AV.take, LR, Rel]
    | succ n => simp only [AV.take, List.take_succ_cons]; exact .cons h1 (ih n h2)
  | _ => intro xs n h; exact h.elim
theorem LR.drop {v : AV} : ∀ {xs : List Value} (n : Nat), LR μ v xs → LR μ (v.drop n) (xs.drop n) := by
  induction v with
  | nil => intro xs n h; simp [LR, Rel] at h; subst h; cases n <;> simp [AV.drop, LR, Rel]
  | cons a t _ ih =>
    rintro xs n ⟨x, r, rfl, h1, h2⟩
    cases n with
    | zero => simp only [AV.drop, List.drop_zero]; exact .cons h1 h2
    | succ n => simp only [AV.drop, List.drop_succ_cons]; exact ih n h2
  | _ => intro xs n h; exact h.elim
theorem LR.app {v u : AV} {ys : List Value} (hu : LR μ u ys) : ∀ {xs : List Value}, LR μ v xs → LR μ (v.app u) (xs ++ ys) := by
  induction v with
  | nil => intro xs h; simp [LR, Rel] at h; subst h; exact hu
  | cons a t _ ih => rintro xs ⟨x, r, rfl, h1, h2⟩; exact .cons h1 (ih h2)
  | _ => intro xs h; exact h.elim
theorem len_app {v u : AV} : v.isList = true → (v.app u).len = v.len + u.len := by
  induction v with
  | nil => intro _; simp [AV.app, AV.len]
  | cons a t _ ih => intro h; simp [AV.app, AV.len, ih h]; omega
  | _ => intro h; simp [AV.isList] at h
theorem LR.isList {v : AV} : ∀ {xs : List Value}, LR μ v xs → v.isList = true := by
  induction v with
  | nil => intro xs h; rfl
  | cons a t _ ih => rintro xs ⟨x, r, rfl, h1, h2⟩; exact ih h2
  | _ => intro xs h; exact h.elim
theorem LR.put {v : AV} : ∀ {xs : List Value} {n : Nat} {u w : AV} {ys : List Value}, LR μ v xs → LR μ u ys → v.put n u = some w →
    n + ys.length ≤ xs.length ∧ LR μ w (xs.take n ++ ys ++ xs.drop (n + ys.length)) := by
  induction v with
  | nil =>
    intro xs n u w ys h hu hp
    simp [LR, Rel] at h; subst h
    cases n with
    | zero => cases u with
      | nil => simp [AV.put] at hp; subst hp; simp [LR, Rel] at hu; subst hu; simp [LR, Rel]
      | cons a t => simp [AV.put] at hp
      | _ => exact hu.elim
    | succ n => simp [AV.put] at hp
  | cons a t _ ih =>
    rintro xs n u w ys ⟨x, r, rfl, h1, h2⟩ hu hp
    cases n with
    | zero =>
      cases u with
      | nil => simp [AV.put] at hp; subst hp; simp [LR, Rel] at hu; subst hu; exact ⟨by simp, by simpa using LR.cons h1 h2⟩
      | cons b s =>
        obtain ⟨y, q, rfl, g1, g2⟩ := hu
        simp only [AV.put, Option.map_eq_some_iff] at hp
        obtain ⟨w', hw, rfl⟩ := hp
        obtain ⟨k1, k2⟩ := ih h2 g2 hw
        simp only [Nat.zero_add, List.take_zero, List.nil_append, List.length_cons, List.drop_succ_cons, List.cons_append] at k1 k2 ⊢
        exact ⟨by omega, .cons g1 k2⟩
      | _ => exact hu.elim
    | succ n =>
      simp only [AV.put, Option.map_eq_some_iff] at hp
      obtain ⟨w', hw, rfl⟩ := hp
      obtain ⟨k1, k2⟩ := ih h2 hu hw
      refine ⟨by simp; omega, ?_⟩
      rw [show n + 1 + ys.length = (n + ys.length) + 1 from by omega]
      simp only [List.take_succ_cons, List.cons_append, List.drop_succ_cons]
      exact .cons h1 k2
  | _ => intro xs n u w ys h; exact h.elim
theorem LR.allOne {v : AV} : ∀ {xs : List Value}, LR μ v xs → v.allOne = true → ∀ x ∈ xs, x.oneCell' = true := by
  induction v with
  | nil => intro xs h _ x hx; simp [LR, Rel] at h; simp [h] at hx
  | cons a t _ ih =>
    rintro xs ⟨x, r, rfl, h1, h2⟩ hone y hy
    simp only [AV.allOne, Bool.and_eq_true] at hone
    rcases List.mem_cons.1 hy with rfl | hy
    · cases a with
      | sc s => cases s <;> simp_all [Rel, Sc.val, Value.oneCell']
      | ptr i o => obtain ⟨b, N, _, rfl⟩ := h1; rfl
      | slc i o l c e s => obtain ⟨b, N, c, _, rfl, _⟩ := h1; rfl
      | map i => obtain ⟨b, N, _, rfl⟩ := h1; rfl
      | yield i => obtain ⟨b, N, _, rfl⟩ := h1; rfl
      | fn f fs cs => obtain ⟨_, _, rfl, _⟩ := h1; rfl
      | iface t v => obtain ⟨_, rfl, _⟩ := h1; rfl
      | agg cs => simp at hone
      | tup cs => simp at hone
      | nil => simp at hone
      | cons _ _ => simp at hone
    · exact ih h2 hone.2 y hy
  | _ => intro xs h; exact h.elim
theorem LR.rep {z : AV} {zs : List Value} (hz : LR μ z zs) : ∀ n, LR μ (AV.rep n z) (List.replicate n zs).flatten
  | 0 => rfl
  | n + 1 => by rw [List.replicate_succ, List.flatten_cons]; exact LR.app (LR.rep hz n) hz
theorem LR.det {v : AV} {s : List Value} (h : scCells v = some s) : ∀ {xs : List Value}, LR μ v xs → xs = s := by
  induction v generalizing s with
  | nil => intro xs hx; simp [scCells] at h; simp [LR, Rel] at hx; simp [hx, h]
  | cons a t _ ih =>
    rintro xs ⟨x, r, rfl, h1, h2⟩
    cases a with
    | sc q =>
      simp only [scCells, Option.map_eq_some_iff] at h
      obtain ⟨s', hs, rfl⟩ := h
      rw [ih hs h2]
      simp only [Rel] at h1
      rw [h1]
    | _ => simp [scCells] at h
  | _ => simp [scCells] at h
end lists

theorem Sc.of_val {v : Value} {s : Sc} (h : Sc.of v = some s) : s.val = v := by
  unfold Sc.of at h
  split at h <;> simp at h <;> subst h <;> rfl
theorem ofCells_LR (μ : Mu) : ∀ {l : List Value} {v : AV}, ofCells l = some v → LR μ v l
  | [], v, h => by simp [ofCells] at h; subst h; rfl
  | x :: r, v, h => by
    simp only [ofCells] at h
    split at h
    · rename_i s t hs ht
      simp at h; subst h
      exact .cons (Sc.of_val hs).symm (ofCells_LR μ ht)
    · simp at h
theorem ofVal_VR (μ : Mu) {x : Value} {v : AV} (h : AV.ofVal x = some v) : VR μ v x := by
  unfold AV.ofVal at h
  split at h
  · simp only [Option.map_eq_some_iff] at h
    obtain ⟨l, hl, rfl⟩ := h
    exact ⟨_, rfl, ofCells_LR μ hl⟩
  · rename_i cs
    split at h
    · rename_i hc
      simp at h; subst h
      have : cs = #[] := Array.toList_eq_nil_iff.1 hc
      subst this; rfl
    · simp at h
  · simp only [Option.map_eq_some_iff] at h
    obtain ⟨s, hs, rfl⟩ := h
    exact (Sc.of_val hs).symm

/-! ### Equality -/
theorem beqK_eq {a b : IntKind} (h : beqK a b = true) : a = b := by
  cases a <;> cases b <;> simp_all [beqK]
theorem beqI_eq {a b : Int} (h : beqI a b = true) : a = b := by
  cases a <;> cases b <;> simp_all [beqI] <;> exact Nat.eq_of_beq_eq_true h
theorem beqB_eq {a b : Bool} (h : beqB a b = true) : a = b := by
  cases a <;> cases b <;> simp_all [beqB]
theorem beqBytes_eq : ∀ {a b : List UInt8}, beqBytes a b = true → a = b
  | [], [], _ => rfl
  | x :: s, y :: t, h => by
    simp only [beqBytes, Bool.and_eq_true] at h
    rw [beqBytes_eq h.2, UInt8.toNat_inj.1 (Nat.eq_of_beq_eq_true h.1)]
  | [], _ :: _, h => by simp [beqBytes] at h
  | _ :: _, [], h => by simp [beqBytes] at h
theorem Sc.beq_eq {a b : Sc} (h : a.beq b = true) : a = b := by
  cases a <;> cases b <;> simp_all [Sc.beq]
  · exact beqB_eq h
  · exact ⟨beqK_eq h.1, beqI_eq h.2⟩
  · rename_i s t
    have := beqBytes_eq h
    cases s with | mk s => cases t with | mk t => simp at this; rw [this]
theorem AV.beq_eq {a : AV} : ∀ {b : AV}, a.beq b = true → a = b := by
  induction a with
  | sc s => intro b h; cases b <;> simp [AV.beq] at h; rw [Sc.beq_eq h]
  | ptr i o => intro b h; cases b <;> simp [AV.beq] at h; simp [h]
  | slc i o l c e s =>
    intro b h; cases b <;> simp [AV.beq] at h
    obtain ⟨⟨⟨⟨⟨h1, h2⟩, h3⟩, h4⟩, h5⟩, h6⟩ := h
    simp [h1, h2, h3, h4, beqB_eq h5, h6]
  | map i => intro b h; cases b <;> simp [AV.beq] at h; simp [h]
  | yield i => intro b h; cases b <;> simp [AV.beq] at h; simp [h]
  | fn f fs cs ih1 ih2 => intro b h; cases b <;> simp [AV.beq] at h; rw [h.1.1, ih1 h.1.2, ih2 h.2]
  | iface t v ih => intro b h; cases b <;> simp [AV.beq] at h; rw [h.1, ih h.2]
  | agg cs ih => intro b h; cases b <;> simp [AV.beq] at h; rw [ih h]
  | tup cs ih => intro b h; cases b <;> simp [AV.beq] at h; rw [ih h]
  | nil => intro b h; cases b <;> simp [AV.beq] at h; rfl
  | cons x t ih1 ih2 => intro b h; cases b <;> simp [AV.beq] at h; rw [ih1 h.1, ih2 h.2]

end Go.Eng
