/-
  The sign of one position against another one: two ways to count are one.
  Conditions: none.
-/
import Derived.Test.YtjcmalmcijpnnaaDoorChkS
namespace Go.Eng

def sumN (h : Nat → Nat) : Nat → Nat
  | 0 => 0
  | n + 1 => sumN h n + h n
theorem sumN_congr {h k : Nat → Nat} : ∀ {n : Nat}, (∀ i, i < n → h i = k i) → sumN h n = sumN k n
  | 0, _ => rfl
  | n + 1, e => by
    show sumN h n + h n = sumN k n + k n
    rw [sumN_congr fun i hi => e i (by omega), e n (by omega)]
theorem sumN_add (h k : Nat → Nat) : ∀ n, sumN (fun i => h i + k i) n = sumN h n + sumN k n
  | 0 => rfl
  | n + 1 => by
    show sumN (fun i => h i + k i) n + (h n + k n) = (sumN h n + h n) + (sumN k n + k n)
    rw [sumN_add h k n]; omega
theorem sumN_zero : ∀ n, sumN (fun _ => 0) n = 0
  | 0 => rfl
  | n + 1 => by show sumN (fun _ => 0) n + 0 = 0; rw [sumN_zero n]
theorem sumN_split (h : Nat → Nat) (a : Nat) : ∀ b, sumN h (a + b) = sumN h a + sumN (fun m => h (a + m)) b
  | 0 => rfl
  | b + 1 => by
    show sumN h (a + b) + h (a + b) = sumN h a + (sumN (fun m => h (a + m)) b + h (a + b))
    rw [sumN_split h a b]; omega
theorem sumN_list (h : Nat → Nat) : ∀ n, sumN h n = ((List.range n).map h).sum
  | 0 => rfl
  | n + 1 => by
    show sumN h n + h n = _
    rw [sumN_list h n, List.range_succ]
    simp
/-- A sum over pairs, each once; over all. -/
def tri (h : Nat → Nat → Nat) : Nat → Nat
  | 0 => 0
  | n + 1 => tri h n + sumN (fun a => h a n) n
def full (h : Nat → Nat → Nat) (n : Nat) : Nat := sumN (fun a => sumN (fun b => h a b) n) n
theorem full_tri (h : Nat → Nat → Nat) : ∀ n, full h n = tri (fun a b => h a b + h b a) n + sumN (fun a => h a a) n
  | 0 => rfl
  | n + 1 => by
    have e : full h (n + 1) = full h n + sumN (fun a => h a n) n + (sumN (h n) n + h n n) := by
      show sumN (fun a => sumN (fun b => h a b) n + h a n) n + (sumN (h n) n + h n n) = _
      rw [sumN_add]; rfl
    rw [e, full_tri h n]
    show _ = (tri (fun a b => h a b + h b a) n + sumN (fun a => h a n + h n a) n) + (sumN (fun a => h a a) n + h n n)
    rw [sumN_add]
    omega
theorem tri_add (h k : Nat → Nat → Nat) : ∀ n, tri (fun a b => h a b + k a b) n = tri h n + tri k n
  | 0 => rfl
  | n + 1 => by
    show tri (fun a b => h a b + k a b) n + sumN (fun a => h a n + k a n) n = (tri h n + sumN (fun a => h a n) n) + (tri k n + sumN (fun a => k a n) n)
    rw [tri_add h k n, sumN_add]; omega
theorem sumN_mod {h k : Nat → Nat} : ∀ {n : Nat}, (∀ i, i < n → h i % 2 = k i % 2) → sumN h n % 2 = sumN k n % 2
  | 0, _ => rfl
  | n + 1, e => by
    have h1 := sumN_mod (n := n) fun i hi => e i (by omega)
    have h2 := e n (by omega)
    show (sumN h n + h n) % 2 = (sumN k n + k n) % 2
    omega
theorem tri_mod {h k : Nat → Nat → Nat} : ∀ {n : Nat}, (∀ a b, a < b → b < n → h a b % 2 = k a b % 2) → tri h n % 2 = tri k n % 2
  | 0, _ => rfl
  | n + 1, e => by
    have h1 := tri_mod (n := n) fun a b h1 h2 => e a b h1 (by omega)
    have h2 := sumN_mod (n := n) (h := fun a => h a n) (k := fun a => k a n) fun a ha => e a n ha (by omega)
    show (tri h n + sumN (fun a => h a n) n) % 2 = (tri k n + sumN (fun a => k a n) n) % 2
    omega
theorem tri_congr {h k : Nat → Nat → Nat} : ∀ {n : Nat}, (∀ a b, a < b → b < n → h a b = k a b) → tri h n = tri k n
  | 0, _ => rfl
  | n + 1, e => by
    show tri h n + sumN (fun a => h a n) n = tri k n + sumN (fun a => k a n) n
    rw [tri_congr fun a b h1 h2 => e a b h1 (by omega), sumN_congr fun a ha => e a n ha (by omega)]

/-- Turned round on the first n numbers. -/
structure Bij (p : Nat → Nat) (n : Nat) : Prop where
  lt : ∀ i, i < n → p i < n
  inj : ∀ i j, i < n → j < n → p i = p j → i = j
theorem Bij.perm {p : Nat → Nat} {n : Nat} (h : Bij p n) : ((List.range n).map p).Perm (List.range n) := by
  have hnd : ((List.range n).map p).Nodup := by
    rw [List.nodup_iff_pairwise_ne, List.pairwise_map]
    refine List.Pairwise.imp_of_mem ?_ (List.pairwise_lt_range (n := n))
    intro a b ha hb hab e
    have := h.inj a b (List.mem_range.1 ha) (List.mem_range.1 hb) e
    omega
  refine (List.perm_ext_iff_of_nodup hnd List.nodup_range).2 fun x => ?_
  constructor
  · intro hx
    obtain ⟨i, hi, rfl⟩ := List.mem_map.1 hx
    exact List.mem_range.2 (h.lt i (List.mem_range.1 hi))
  · intro hx
    by_cases hm : x ∈ (List.range n).map p
    · exact hm
    · have hx' := List.mem_range.1 hx
      have := nodup_sub (l := x :: (List.range n).map p) (m := List.range n) (List.nodup_cons.2 ⟨hm, hnd⟩) fun y hy => by
        rcases List.mem_cons.1 hy with rfl | hy
        · exact hx
        · obtain ⟨i, hi, rfl⟩ := List.mem_map.1 hy
          exact List.mem_range.2 (h.lt i (List.mem_range.1 hi))
      simp at this
      omega
theorem Bij.sum {p : Nat → Nat} {n : Nat} (h : Bij p n) (f : Nat → Nat) : sumN (fun a => f (p a)) n = sumN f n := by
  rw [sumN_list, sumN_list]
  have e : (List.range n).map (fun a => f (p a)) = ((List.range n).map p).map f := by rw [List.map_map]; rfl
  rw [e]
  exact (h.perm.map f).sum_nat
theorem Bij.full {p : Nat → Nat} {n : Nat} (h : Bij p n) (f : Nat → Nat → Nat) : full (fun a b => f (p a) (p b)) n = full f n := by
  unfold Go.Eng.full
  rw [← h.sum (fun x => sumN (fun b => f x b) n)]
  refine sumN_congr fun a _ => ?_
  exact h.sum (fun y => f (p a) y)

def ind (p : Prop) [Decidable p] : Nat := if p then 1 else 0
def inv (f : Nat → Nat) (n : Nat) : Nat := tri (fun a b => ind (f b < f a)) n
def dis (u v : Nat → Nat) (n : Nat) : Nat := full (fun a b => ind (u a < u b ∧ v b < v a)) n
theorem dis_id (f : Nat → Nat) (n : Nat) : full (fun a b => ind (a < b ∧ f b < f a)) n = inv f n := by
  rw [full_tri]
  have e : sumN (fun a => ind (a < a ∧ f a < f a)) n = 0 := by
    rw [← sumN_zero n]
    exact sumN_congr fun a _ => by unfold ind; rw [if_neg (by omega)]
  rw [e]
  refine tri_congr fun a b h1 h2 => ?_
  unfold ind
  by_cases h : f b < f a
  · rw [if_pos ⟨h1, h⟩, if_neg (by omega), if_pos h]
  · rw [if_neg (by omega), if_neg (by omega), if_neg h]
theorem dis_mod {u v : Nat → Nat} {n : Nat} (hu : Bij u n) (hv : Bij v n) : dis u v n % 2 = (inv u n + inv v n) % 2 := by
  unfold dis inv
  rw [full_tri, ← tri_add]
  have e : sumN (fun a => ind (u a < u a ∧ v a < v a)) n = 0 := by
    rw [← sumN_zero n]
    exact sumN_congr fun a _ => by unfold ind; rw [if_neg (by omega)]
  rw [e]
  refine tri_mod fun a b h1 h2 => ?_
  have n1 : u a ≠ u b := fun q => by have := hu.inj a b (by omega) h2 q; omega
  have n2 : v a ≠ v b := fun q => by have := hv.inj a b (by omega) h2 q; omega
  unfold ind
  repeat' split
  all_goals omega

/-- q after f is p; g after p is q: f and g are turned as often, but for twos. -/
theorem inv_mod {p q f g : Nat → Nat} {n : Nat} (hp : Bij p n) (hq : Bij q n) (hf : Bij f n) (h1 : ∀ i, i < n → q (f i) = p i) (h2 : ∀ i, i < n → g (p i) = q i) : inv f n % 2 = inv g n % 2 := by
  have e1 : dis f p n = inv q n := by
    unfold dis
    rw [← dis_id q n, ← hf.full (fun a b => ind (a < b ∧ q b < q a))]
    unfold full
    refine sumN_congr fun a ha => sumN_congr fun b hb => ?_
    show ind (f a < f b ∧ p b < p a) = ind (f a < f b ∧ q (f b) < q (f a))
    rw [h1 a ha, h1 b hb]
  have e2 : dis p q n = inv g n := by
    unfold dis
    rw [← dis_id g n, ← hp.full (fun a b => ind (a < b ∧ g b < g a))]
    unfold full
    refine sumN_congr fun a ha => sumN_congr fun b hb => ?_
    show ind (p a < p b ∧ q b < q a) = ind (p a < p b ∧ g (p b) < g (p a))
    rw [h2 a ha, h2 b hb]
  have m1 := dis_mod hf hp
  have m2 := dis_mod hp hq
  rw [e1] at m1
  rw [e2] at m2
  omega

/-! ### The two signs -/
def sg (c : Nat) : Int := if c % 2 = 0 then 1 else -1
theorem sg_mod {a b : Nat} (h : a % 2 = b % 2) : sg a = sg b := by unfold sg; rw [h]
theorem innerS_sg (f : Nat → Nat) (i : Nat) (c : Nat) : ∀ k, innerS f i k (sg c) = sg (c + sumN (fun a => ind (f i < f a)) k)
  | 0 => rfl
  | k + 1 => by
    show (if f i < f k then -(innerS f i k (sg c)) else innerS f i k (sg c)) = sg (c + (sumN (fun a => ind (f i < f a)) k + ind (f i < f k)))
    rw [innerS_sg f i c k]
    unfold ind sg
    repeat' split
    all_goals omega
theorem outerS_sg (f : Nat → Nat) : ∀ n, outerS f n = sg (inv f n)
  | 0 => rfl
  | n + 1 => by
    show innerS f n n (outerS f n) = _
    rw [outerS_sg f n, innerS_sg]
    rfl
/-- The reference's loops. -/
def innerR (f : Nat → Nat) (i : Nat) : Nat → Int → Int
  | 0, s => s
  | m + 1, s => if f (i + 1 + m) < f i then -(innerR f i m s) else innerR f i m s
def outerR (f : Nat → Nat) (n : Nat) : Nat → Int
  | 0 => 1
  | i + 1 => innerR f i (n - (i + 1)) (outerR f n i)
theorem innerR_unit (f : Nat → Nat) (i : Nat) {s : Int} (h : s = 1 ∨ s = -1) : ∀ k, innerR f i k s = 1 ∨ innerR f i k s = -1
  | 0 => h
  | k + 1 => by
    have := innerR_unit f i h k
    unfold innerR
    split <;> omega
theorem outerR_unit (f : Nat → Nat) (n : Nat) : ∀ k, outerR f n k = 1 ∨ outerR f n k = -1
  | 0 => .inl rfl
  | k + 1 => innerR_unit f k (outerR_unit f n k) _
theorem innerR_sg (f : Nat → Nat) (i : Nat) (c : Nat) : ∀ m, innerR f i m (sg c) = sg (c + sumN (fun m => ind (f (i + 1 + m) < f i)) m)
  | 0 => rfl
  | m + 1 => by
    show (if f (i + 1 + m) < f i then -(innerR f i m (sg c)) else innerR f i m (sg c)) = sg (c + (sumN (fun m => ind (f (i + 1 + m) < f i)) m + ind (f (i + 1 + m) < f i)))
    rw [innerR_sg f i c m]
    unfold ind sg
    repeat' split
    all_goals omega
theorem outerR_sg (f : Nat → Nat) (n : Nat) : ∀ k, k ≤ n → outerR f n k = sg (sumN (fun a => sumN (fun b => ind (a < b ∧ f b < f a)) n) k)
  | 0, _ => rfl
  | k + 1, hk => by
    show innerR f k (n - (k + 1)) (outerR f n k) = sg (sumN (fun a => sumN (fun b => ind (a < b ∧ f b < f a)) n) k + sumN (fun b => ind (k < b ∧ f b < f k)) n)
    rw [outerR_sg f n k (by omega), innerR_sg]
    have e : sumN (fun b => ind (k < b ∧ f b < f k)) n = sumN (fun m => ind (f (k + 1 + m) < f k)) (n - (k + 1)) := by
      have := sumN_split (fun b => ind (k < b ∧ f b < f k)) (k + 1) (n - (k + 1))
      rw [show k + 1 + (n - (k + 1)) = n by omega] at this
      rw [this]
      have z : sumN (fun b => ind (k < b ∧ f b < f k)) (k + 1) = 0 := by
        rw [← sumN_zero (k + 1)]
        exact sumN_congr fun b hb => by unfold ind; rw [if_neg (by omega)]
      rw [z, Nat.zero_add]
      refine sumN_congr fun m _ => ?_
      unfold ind
      by_cases h : f (k + 1 + m) < f k
      · rw [if_pos ⟨by omega, h⟩, if_pos h]
      · rw [if_neg (by omega), if_neg h]
    rw [e]
theorem outerR_inv (f : Nat → Nat) (n : Nat) : outerR f n n = sg (inv f n) := by
  rw [outerR_sg f n n (Nat.le_refl _), ← dis_id f n]
  rfl
end Go.Eng
