/-
  Lists that are positions; as many are reached from any position as from the first one; the sign after moves.
  Conditions: none.
-/
import Derived.Test.YtjcmalmcijpnnaaDoorSolX
import Derived.Test.YtjcmalmcijpnnaaDoorBfsX
import Derived.Test.YtjcmalmcijpnnaaDoorBrdH

namespace Go.Eng
open Go.RowKit Go.Proofs Go.Proofs.YtjcmalmcijpnnaaDoor

/-- A list is this position. -/
def PosList (w : World) (v : Value) (N : Nat) (z : Nat → Int) : Prop := Pos N z ∧ ∃ a cap, v = .slice (some a) N cap ∧ N ≤ cap ∧ a.block < w.heap.size ∧ ∀ i, i < N → w.cell? (a.add i) = some (.int .i64 (z i))
theorem PosList.below {w w' : World} {v : Value} {N : Nat} {z : Nat → Int} (h : PosList w v N z) (hb : Below w.heap.size w w') : PosList w' v N z := by
  obtain ⟨hp, a, cap, h1, h2, h3, h4⟩ := h
  exact ⟨hp, a, cap, h1, h2, Nat.lt_of_lt_of_le h3 hb.size, fun i hi => (hb.cell (p := a.add i) (by rw [add_block]; exact h3)).trans (h4 i hi)⟩
theorem PosList.ints {w : World} {v : Value} {N : Nat} {z : Nat → Int} (h : PosList w v N z) (hN : N ≤ 9) : IntsAt w v ((List.range N).map z) := by
  obtain ⟨hp, a, cap, rfl, h2, h3, h4⟩ := h
  exact IntsAt.of_cells h4 h3 h2 (by omega)
theorem PosList.isPos {N : Nat} {z : Nat → Int} (hN : 2 ≤ N ∧ N ≤ 9) (h : Pos N z) : IsPos (N : Int) ((List.range N).map z) := by
  refine ⟨by omega, by simp, fun x hx => ?_, h.mem.1⟩
  obtain ⟨i, hi, rfl⟩ := List.mem_map.1 hx
  exact ⟨h.lo i, h.hi i (List.mem_range.1 hi)⟩
theorem posFun {N : Nat} {z : Nat → Int} (h : Pos N z) : (fun i => ((List.range N).map z).getD i 0) = z := by
  funext i
  by_cases hi : i < N
  · simp [List.getD_eq_getElem?_getD, hi]
  · rw [h.out i (by omega), List.getD_eq_getElem?_getD, List.getElem?_eq_none (by simp; omega)]
    rfl
theorem PosList.of {w : World} {v : Value} {N : Nat} {zs : List Int} (hN : 2 ≤ N ∧ N ≤ 9) (h : IntsAt w v zs) (hp : IsPos (N : Int) zs) : PosList w v N (fun i => zs.getD i 0) := by
  have hl : zs.length = N := by have := hp.2.1; omega
  refine ⟨Pos.of hp, ?_⟩
  rcases h with ⟨rfl, rfl⟩ | ⟨a, cap, rfl, h1, h2, h3, h4⟩
  · simp at hl; omega
  · rw [hl] at h1 h3 h4
    exact ⟨a, cap, by rw [hl], h1, h3 (by omega), h4⟩
theorem PosList.moved {w : World} {v : Value} {N : Nat} {z : Nat → Int} (hN : 2 ≤ N ∧ N ≤ 9) (hz : Pos N z) (h : IntsAt w v ((List.range N).map z)) : PosList w v N z := by
  have := PosList.of hN h (PosList.isPos hN hz)
  rw [posFun hz] at this
  exact this
end Go.Eng

namespace Go.Eng

section
variable {qs : List (Nat × Nat)} {N : Nat} {s q r : Nat → Int}
theorem Reached.symm (h : Reached qs N s q) : Reached qs N q s := by
  obtain ⟨d, h⟩ := h
  exact ⟨d, h.symm fun a b => Mov.symm⟩
theorem Reached.trans (h : Reached qs N s q) (h' : Reached qs N q r) : Reached qs N s r := by
  obtain ⟨d, h⟩ := h
  obtain ⟨d', h'⟩ := h'
  obtain ⟨k, _, hk⟩ := (h.1.add h'.1).dist
  exact ⟨k, hk⟩
theorem Reached.refl : Reached qs N s s := ⟨0, .zero⟩
theorem Reached.wlk {n : Nat} (h : Wlk (Mov qs N) s n q) : Reached qs N s q := by
  obtain ⟨k, _, hk⟩ := h.dist
  exact ⟨k, hk⟩
end

/-- The hole can go to the first place. -/
theorem hole_home {N : Nat} {ps : List (Int × Int)} (hb : IsBoard N ps) {i : Nat} (hi : i < N) : ∀ {q : Nat → Int}, Pos N q → PosZ q N i → ∃ q', Reached (nats ps) N q q' ∧ PosZ q' N 0 := by
  have hm := nats_mem hb.1
  have hL := hb.2 i hi (by omega)
  have hf : firstOf (-1) = 0 := rfl
  rw [hf] at hL
  have hlt : ∀ a b, Adj (nats ps) a b → a < N ∧ b < N := by
    rintro a b (h | h)
    · have := hm _ h; simp at this; omega
    · have := hm _ h; simp at this; omega
  clear hi
  induction hL with
  | start => exact fun {q} hq hz => ⟨q, .refl, hz⟩
  | step _ e ih =>
    rename_i a b _
    intro q hq hz
    have h2 := hlt _ _ e.1
    have hn := nearB_adj (fun q hq => (hm q hq).1) e.1
    have hmv : Mov (nats ps) N q (swapAt q b a) := ⟨hq, b, a, hz, h2.1, by rw [nearB_comm]; exact hn, rfl⟩
    obtain ⟨q', h3, h4⟩ := ih hmv.pos (hz.move h2.1)
    exact ⟨q', Reached.trans (.wlk (.step .zero hmv)) h3, h4⟩

/-- The numbers of a position changed. -/
def relab (N : Nat) (p z : Nat → Int) : Nat → Int := fun i => if i < N then p (z i).toNat else 0
section
variable {qs : List (Nat × Nat)} {N : Nat} {p p' z z' : Nat → Int}
theorem relab_pos (hp : Pos N p) (hz : Pos N z) : Pos N (relab N p z) := by
  have hlt : ∀ i, i < N → (z i).toNat < N := fun i hi => by have := hz.lo i; have := hz.hi i hi; omega
  refine ⟨fun i hi => ?_, fun i => ?_, fun i hi => ?_, fun i j hi hj e => ?_⟩
  · unfold relab; rw [if_neg (by omega)]
  · unfold relab; split
    · exact hp.lo _
    · decide
  · unfold relab; rw [if_pos hi]; exact hp.hi _ (hlt i hi)
  · unfold relab at e; rw [if_pos hi, if_pos hj] at e
    have h1 := hp.inj _ _ (hlt i hi) (hlt j hj) e
    have h2 := hz.lo i
    have h3 := hz.lo j
    exact hz.inj i j hi hj (by omega)
theorem relab_swap {a b : Nat} (ha : a < N) (hb : b < N) : relab N p (swapAt z a b) = swapAt (relab N p z) a b := by
  funext i
  unfold relab swapAt
  by_cases h1 : i = b
  · subst h1; simp [ha, hb]
  · by_cases h2 : i = a
    · subst h2; simp [h1, ha, hb]
    · simp [h1, h2]
theorem relab_posZ (hp : Pos N p) (h0 : p 0 = 0) (hN : N ≤ 100) (hz : Pos N z) {h : Nat} (hh : PosZ z N h) : PosZ (relab N p z) N h := by
  have hr := relab_pos hp hz
  have e0 : relab N p z h = 0 := by
    unfold relab
    rw [if_pos hh.lt, hh.zero]
    exact h0
  refine ⟨hh.lt, e0, fun i hi hne e => hne (hr.inj i h hi hh.lt (e.trans e0.symm)), fun i => ⟨hr.lo i, ?_⟩⟩
  by_cases hi : i < N
  · have := hr.hi i hi; omega
  · rw [hr.out i (by omega)]; decide
theorem relab_mov (hp : Pos N p) (h0 : p 0 = 0) (hN : N ≤ 100) (h : Mov qs N z z') : Mov qs N (relab N p z) (relab N p z') := by
  obtain ⟨hz, a, t, h1, h2, h3, rfl⟩ := h
  exact ⟨relab_pos hp hz, a, t, relab_posZ hp h0 hN hz h1, h2, h3, relab_swap h1.lt h2⟩
theorem relab_reached (hp : Pos N p) (h0 : p 0 = 0) (hN : N ≤ 100) (h : Reached qs N z z') : Reached qs N (relab N p z) (relab N p z') := by
  obtain ⟨d, h⟩ := h
  have hw := h.1
  clear h
  induction hw with
  | zero => exact .refl
  | step _ e ih => exact ih.trans (.wlk (.step .zero (relab_mov hp h0 hN e)))
theorem relab_id (hp : Pos N p) : relab N p (idF N) = p := by
  refine (relab_pos hp (idF_pos N)).ext hp fun i hi => ?_
  unfold relab idF
  rw [if_pos hi, if_pos hi]
  rfl
/-- A position turned round. -/
theorem pos_back (hp : Pos N p) : ∃ p', Pos N p' ∧ (∀ i, i < N → p' (p i).toNat = (i : Int)) ∧ ∀ i, i < N → p (p' i).toNat = (i : Int) := by
  classical
  have hex : ∀ v : Nat, v < N → ∃ i, i < N ∧ p i = (v : Int) := fun v hv => hp.mem.2 v (by omega) (by omega)
  let f : Nat → Nat := fun v => if h : v < N then Classical.choose (hex v h) else 0
  have hf : ∀ v, v < N → f v < N ∧ p (f v) = (v : Int) := fun v hv => by
    have := Classical.choose_spec (hex v hv)
    show (if h : v < N then Classical.choose (hex v h) else 0) < N ∧ p (if h : v < N then Classical.choose (hex v h) else 0) = (v : Int)
    rw [dif_pos hv]
    exact this
  refine ⟨fun v => if v < N then (f v : Int) else 0, ⟨fun i hi => by simp; omega, fun i => ?_, fun i hi => ?_, fun i j hi hj e => ?_⟩, fun i hi => ?_, fun i hi => ?_⟩
  · show (0 : Int) ≤ if i < N then (f i : Int) else 0
    split <;> omega
  · show (if i < N then (f i : Int) else 0) < (N : Int)
    rw [if_pos hi]
    have := (hf i hi).1
    omega
  · have e : (if i < N then (f i : Int) else 0) = if j < N then (f j : Int) else 0 := e
    rw [if_pos hi, if_pos hj] at e
    have h1 := (hf i hi).2
    have h2 := (hf j hj).2
    have h3 : f i = f j := by omega
    rw [h3, h2] at h1
    omega
  · have h1 := hp.lo i
    have h2 := hp.hi i hi
    have hlt : (p i).toNat < N := by omega
    show (if (p i).toNat < N then (f (p i).toNat : Int) else 0) = (i : Int)
    rw [if_pos hlt]
    have h3 := hf _ hlt
    have h4 := hp.inj _ i h3.1 hi (by rw [h3.2]; omega)
    rw [h4]
  · show p (if i < N then (f i : Int) else 0).toNat = (i : Int)
    rw [if_pos hi]
    exact (hf i hi).2
theorem relab_back (hz : Pos N z) (hp : Pos N p) (hp' : Pos N p') (h : ∀ i, i < N → p (p' i).toNat = (i : Int)) : relab N p (relab N p' z) = z := by
  refine (relab_pos hp (relab_pos hp' hz)).ext hz fun i hi => ?_
  unfold relab
  rw [if_pos hi, if_pos hi]
  have h1 := hz.lo i
  have h2 := hz.hi i hi
  rw [h _ (by omega)]
  omega
end

/-- As many are reached from any position as from the first one. -/
theorem count_same {N : Nat} {ps : List (Int × Int)} {p : Nat → Int} {c c' : Nat} (hN : 2 ≤ N ∧ N ≤ 9) (hb : IsBoard N ps) (hp : Pos N p) (h : CountOf (Reached (nats ps) N p) c) (h' : CountOf (Reached (nats ps) N (idF N)) c') : c = c' := by
  obtain ⟨i, hi⟩ := hp.ex_hole (by omega) (by omega)
  obtain ⟨p0, h1, h2⟩ := hole_home hb hi.lt hp hi
  have hp0 : Pos N p0 := h1.pos hp
  have hz0 := h2.zero
  obtain ⟨p1, hp1, e1, e2⟩ := pos_back hp0
  have hz1 : p1 0 = 0 := by
    have := e1 0 (by omega)
    rw [hz0] at this
    exact this
  have hc0 : CountOf (Reached (nats ps) N p0) c := h.congr fun q => ⟨fun hq => h1.symm.trans hq, fun hq => h1.trans hq⟩
  have hidp : relab N p1 p0 = idF N := by
    have := relab_back (idF_pos N) hp1 hp0 e1
    rw [relab_id hp0] at this
    exact this
  have hc1 : CountOf (Reached (nats ps) N p0) c' := CountOf.map (relab N p0) (relab N p1) h' (fun q hq => by
    have hqp := hq.pos (idF_pos N)
    refine ⟨?_, relab_back hqp hp1 hp0 e1⟩
    have := relab_reached hp0 hz0 (by omega) hq
    rw [relab_id hp0] at this
    exact this) fun q hq => by
    have hqp := hq.pos hp0
    refine ⟨?_, relab_back hqp hp0 hp1 e2⟩
    have := relab_reached hp1 hz1 (by omega) hq
    rw [hidp] at this
    exact this
  exact hc0.unique hc1

/-- The number of what is reached is that of places times something. -/
theorem count_mul {N : Nat} {ps : List (Int × Int)} {c : Nat} (hN : 2 ≤ N ∧ N ≤ 9) (hb : IsBoard N ps) (h : CountOf (Reached (nats ps) N (idF N)) c) : N * (c / N) = c := by
  classical
  obtain ⟨L, h1, h2, h3⟩ := h
  have hc : CountOf (fun q => Reached (nats ps) N (idF N) q ∧ PosZ q N 0) (L.filter fun q => decide (PosZ q N 0)).length :=
    ⟨_, h1.filter _, fun q => by rw [List.mem_filter, h2, decide_eq_true_eq], rfl⟩
  have := (count_all hN (idF_pos N) hb hc).unique ⟨L, h1, h2, h3⟩
  rw [← this, Nat.mul_div_cancel_left _ (by omega)]

/-- The size times the places is the count, from any position. -/
theorem bfs_mul {N : Nat} {ps : List (Int × Int)} {p : Nat → Int} {a b c a' b' c' : Nat} (hN : 2 ≤ N ∧ N ≤ 9) (hb : IsBoard N ps) (hp : Pos N p) (h : Bfs (Mov (nats ps) N) p a b c) (h' : Bfs (Mov (nats ps) N) (idF N) a' b' c') : N * (a' / N) = a := by
  obtain ⟨L, hL, rfl⟩ := h.all
  obtain ⟨L', hL', rfl⟩ := h'.all
  have k : CountOf (Reached (nats ps) N p) L.length := ⟨L, hL.1, hL.2, rfl⟩
  have k' : CountOf (Reached (nats ps) N (idF N)) L'.length := ⟨L', hL'.1, hL'.2, rfl⟩
  rw [count_mul hN hb k', count_same hN hb hp k k']

/-- The last ones are some, and not more than all. -/
theorem bfs_last {S : Type} {E : S → S → Prop} {s : S} {a b c : Nat} (h : Bfs E s a b c) : 1 ≤ c ∧ c ≤ a := by
  obtain ⟨L, hL, rfl⟩ := h.all
  obtain ⟨M, hM, rfl, hne⟩ := h.far
  refine ⟨by cases M with | nil => exact absurd rfl hne | cons => simp, nodup_len hM.1 fun x hx => (hL.2 x).2 ⟨_, (hM.2 x).1 hx⟩⟩

/-! ### The sign -/
def trn (a b : Nat) : Nat → Nat := fun i => if i = b then a else if i = a then b else i
theorem trn_odd9 : ((List.range 10).all fun n => (List.range n).all fun a => (List.range n).all fun b => Nat.beq a b || Nat.beq (inv (trn a b) n % 2) 1) = true := by kernel_rfl
theorem trn_odd {a b n : Nat} (hn : n ≤ 9) (ha : a < n) (hb : b < n) (hab : a ≠ b) : inv (trn a b) n % 2 = 1 := by
  have h1 := List.all_eq_true.1 (List.all_eq_true.1 (List.all_eq_true.1 trn_odd9 n (List.mem_range.2 (by omega))) a (List.mem_range.2 ha)) b (List.mem_range.2 hb)
  rw [Bool.or_eq_true] at h1
  rcases h1 with h1 | h1
  · exact absurd (Nat.eq_of_beq_eq_true h1) hab
  · exact Nat.eq_of_beq_eq_true h1
theorem trn_bij {a b n : Nat} (ha : a < n) (hb : b < n) : Bij (trn a b) n := by
  refine ⟨fun i hi => ?_, fun i j hi hj e => ?_⟩
  · unfold trn; split
    · exact ha
    · split
      · exact hb
      · exact hi
  · unfold trn at e
    split at e <;> split at e <;> (try split at e) <;> (try split at e) <;> omega

/-- A position as numbers. -/
def natF (z : Nat → Int) : Nat → Nat := fun i => (z i).toNat
theorem natF_bij {N : Nat} {z : Nat → Int} (h : Pos N z) : Bij (natF z) N := by
  refine ⟨fun i hi => ?_, fun i j hi hj e => ?_⟩
  · have h1 := h.lo i; have h2 := h.hi i hi
    show (z i).toNat < N
    omega
  · have e : (z i).toNat = (z j).toNat := e
    have h1 := h.lo i; have h2 := h.lo j
    exact h.inj i j hi hj (by omega)
theorem inv_swap {N : Nat} {z : Nat → Int} (hN : N ≤ 9) (h : Pos N z) {a b : Nat} (ha : a < N) (hb : b < N) (hab : a ≠ b) : inv (natF (swapAt z a b)) N % 2 = (inv (natF z) N + 1) % 2 := by
  have hs := h.swap ha hb
  have bt := trn_bij ha hb
  have e1 : dis (trn a b) (natF (swapAt z a b)) N = inv (natF z) N := by
    unfold dis
    rw [← dis_id (natF z) N, ← bt.full (fun x y => ind (x < y ∧ natF z y < natF z x))]
    unfold full
    refine sumN_congr fun i hi => sumN_congr fun j hj => ?_
    have k : ∀ i, natF (swapAt z a b) i = natF z (trn a b i) := fun i => by
      unfold natF swapAt trn
      by_cases h1 : i = b
      · rw [if_pos h1, if_pos h1]
      · by_cases h2 : i = a
        · rw [if_neg h1, if_pos h2, if_neg h1, if_pos h2]
        · rw [if_neg h1, if_neg h2, if_neg h1, if_neg h2]
    show ind (trn a b i < trn a b j ∧ natF (swapAt z a b) j < natF (swapAt z a b) i) = ind (trn a b i < trn a b j ∧ natF z (trn a b j) < natF z (trn a b i))
    rw [k, k]
  have m1 := dis_mod bt (natF_bij hs)
  have m2 := trn_odd hN ha hb hab
  rw [e1] at m1
  omega

/-- Moves as far as they go: what is reached, and how the sign goes. -/
theorem applyF_walk {qs : List (Nat × Nat)} {N : Nat} (hN : N ≤ 9) (hq : ∀ q ∈ qs, q.1 < q.2 ∧ q.2 < N) : ∀ (ms : List Int) {z : Nat → Int} {h : Nat}, Pos N z → PosZ z N h →
    Reached qs N z (applyF qs z h ms).1 ∧ (applyF qs z h ms).2 ≤ ms.length ∧ inv (natF (applyF qs z h ms).1) N % 2 = (inv (natF z) N + (applyF qs z h ms).2) % 2
  | [], z, h, hz, hh => ⟨.refl, Nat.le_refl _, rfl⟩
  | t :: ts, z, h, hz, hh => by
    by_cases hn : nearB qs h t = true
    · have e : applyF qs z h (t :: ts) = ((applyF qs (swapAt z h t.toNat) t.toNat ts).1, (applyF qs (swapAt z h t.toNat) t.toNat ts).2 + 1) := by
        show (if nearB qs h t = true then _ else _) = _
        rw [if_pos hn]
      have hr := near_lt hq hn
      have ht : t.toNat < N := by omega
      have hn' : nearB qs h ((t.toNat : Nat) : Int) = true := by rw [Int.toNat_of_nonneg hr.1]; exact hn
      have hmv : Mov qs N z (swapAt z h t.toNat) := ⟨hz, h, t.toNat, hh, ht, hn', rfl⟩
      obtain ⟨i1, i2, i3⟩ := applyF_walk hN hq ts hmv.pos (hh.move ht)
      have hne : h ≠ t.toNat := by have := near_lt hq hn'; omega
      have i4 := inv_swap hN hz hh.lt ht hne
      rw [e]
      refine ⟨Reached.trans (.wlk (.step .zero hmv)) i1, ?_, ?_⟩
      · simp; omega
      · show inv (natF (applyF qs (swapAt z h t.toNat) t.toNat ts).1) N % 2 = (inv (natF z) N + ((applyF qs (swapAt z h t.toNat) t.toNat ts).2 + 1)) % 2
        omega
    · have e : applyF qs z h (t :: ts) = (z, 0) := by
        show (if nearB qs h t = true then _ else _) = _
        rw [if_neg hn]
      rw [e]
      exact ⟨.refl, Nat.zero_le _, rfl⟩

/-- The sign of one position against another one, by both counts of turned pairs. -/
theorem sign_par {N : Nat} {P Q : List Int} (hP : IsPos (N : Int) P) (hQ : IsPos (N : Int) Q) : outerR (setK (numAt P) (numAt Q) N) N N = sg (inv (numAt P) N + inv (numAt Q) N) := by
  have bp := hP.bij
  have bq := hQ.bij
  rw [outerR_inv]
  refine sg_mod ?_
  have e2 : dis (numAt P) (numAt Q) N = inv (setK (numAt P) (numAt Q) N) N := by
    unfold dis
    rw [← dis_id (setK (numAt P) (numAt Q) N) N, ← bp.full (fun a b => ind (a < b ∧ setK (numAt P) (numAt Q) N b < setK (numAt P) (numAt Q) N a))]
    unfold full
    refine sumN_congr fun a ha => sumN_congr fun b hb => ?_
    show ind (numAt P a < numAt P b ∧ numAt Q b < numAt Q a) = ind (numAt P a < numAt P b ∧ setK (numAt P) (numAt Q) N (numAt P b) < setK (numAt P) (numAt Q) N (numAt P a))
    rw [setK_spec bp N (Nat.le_refl _) a ha, setK_spec bp N (Nat.le_refl _) b hb]
  have m2 := dis_mod bp bq
  rw [e2] at m2
  exact m2
theorem numAt_pos {N : Nat} {z : Nat → Int} (h : Pos N z) : numAt ((List.range N).map z) = natF z := by
  funext i
  have := congrFun (posFun h) i
  unfold numAt natF
  have e : ((List.range N).map z).getD i 0 = z i := this
  rw [e]
theorem sign_moves {N : Nat} {z r : Nat → Int} {k : Nat} (hN : 2 ≤ N ∧ N ≤ 9) (hz : Pos N z) (hr : Pos N r) (h : inv (natF r) N % 2 = (inv (natF z) N + k) % 2) :
    outerR (setK (numAt ((List.range N).map z)) (numAt ((List.range N).map r)) N) N N = if k % 2 = 0 then 1 else -1 := by
  rw [sign_par (PosList.isPos hN hz) (PosList.isPos hN hr), numAt_pos hz, numAt_pos hr]
  unfold sg
  have : (inv (natF z) N + inv (natF r) N) % 2 = k % 2 := by omega
  rw [this]
end Go.Eng
