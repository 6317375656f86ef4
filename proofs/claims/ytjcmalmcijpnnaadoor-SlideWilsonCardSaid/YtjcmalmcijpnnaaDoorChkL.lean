/-
  What 'open' of the program answers.
  Conditions: the pairs' cells are known.
-/
import Derived.Test.YtjcmalmcijpnnaaDoorChkJ
import Derived.Test.YtjcmalmcijpnnaaDoorChkK
import Derived.Test.YtjcmalmcijpnnaaDoorChkN
import Derived.Sort.QuietIn
import Derived.Deep.QuietTactic
namespace Go.Eng
open Go.RowKit Go.Proofs Go.Proofs.YtjcmalmcijpnnaaDoor

/-- The neighbours as bits, an edge more. -/
def addEdge (nx : Nat → Nat) (q : Nat × Nat) : Nat → Nat := fun i => if i = q.1 then nx i ||| 2 ^ q.2 else if i = q.2 then nx i ||| 2 ^ q.1 else nx i
def nxs (qs : List (Nat × Nat)) : Nat → Nat := qs.foldl addEdge fun _ => 0

theorem addEdge_bit (nx : Nat → Nat) {q : Nat × Nat} (hq : q.1 < q.2) (i j : Nat) : (addEdge nx q i).testBit j = ((nx i).testBit j || (decide (i = q.1) && decide (j = q.2)) || (decide (i = q.2) && decide (j = q.1))) := by
  have e : ∀ a b : Nat, decide (a = b) = decide (b = a) := fun a b => by
    by_cases h : a = b
    · simp [h]
    · have : ¬ b = a := fun q => h q.symm
      simp [h, this]
  unfold addEdge
  by_cases h1 : i = q.1
  · have h2 : ¬ i = q.2 := by omega
    rw [if_pos h1, testBit_or]
    simp [h1, e q.2 j]
    intro h; omega
  · by_cases h2 : i = q.2
    · rw [if_neg h1, if_pos h2, testBit_or]
      have h3 : ¬ q.2 = q.1 := by omega
      simp [h2, h3, e q.1 j]
    · rw [if_neg h1, if_neg h2]
      simp [h1, h2]

theorem foldl_bit : ∀ (qs : List (Nat × Nat)) (nx : Nat → Nat), (∀ q ∈ qs, q.1 < q.2) → ∀ i j, ((qs.foldl addEdge nx) i).testBit j = true ↔ (nx i).testBit j = true ∨ Adj qs i j
  | [], nx, _, i, j => by simp [Adj]
  | q :: t, nx, h, i, j => by
    rw [List.foldl_cons, foldl_bit t _ (fun x hx => h x (by simp [hx])), addEdge_bit nx (h q (by simp))]
    unfold Adj
    simp only [Bool.or_eq_true, Bool.and_eq_true, decide_eq_true_eq, List.mem_cons]
    constructor
    · rintro (((h1 | ⟨rfl, rfl⟩) | ⟨rfl, rfl⟩) | (h1 | h1))
      · exact .inl h1
      · exact .inr (.inl (.inl rfl))
      · exact .inr (.inr (.inl rfl))
      · exact .inr (.inl (.inr h1))
      · exact .inr (.inr (.inr h1))
    · rintro (h1 | ((h1 | h1) | (h1 | h1)))
      · exact .inl (.inl (.inl h1))
      · exact .inl (.inl (.inr (by rw [← h1]; exact ⟨rfl, rfl⟩)))
      · exact .inr (.inl h1)
      · exact .inl (.inr (by rw [← h1]; exact ⟨rfl, rfl⟩))
      · exact .inr (.inr h1)
theorem nxs_bit {qs : List (Nat × Nat)} (h : ∀ q ∈ qs, q.1 < q.2) (i j : Nat) : (nxs qs i).testBit j = true ↔ Adj qs i j := by
  unfold nxs
  rw [foldl_bit qs _ h]
  simp
theorem addEdge_lt {nx : Nat → Nat} {q : Nat × Nat} (hq : q.1 < 9 ∧ q.2 < 9) (h : ∀ i, nx i < 512) (i : Nat) : addEdge nx q i < 512 := by
  unfold addEdge
  split
  · exact or_lt (h i) hq.2
  · split
    · exact or_lt (h i) hq.1
    · exact h i
theorem foldl_addEdge_lt : ∀ (qs : List (Nat × Nat)) (nx : Nat → Nat), (∀ q ∈ qs, q.1 < 9 ∧ q.2 < 9) → (∀ i, nx i < 512) → ∀ i, (qs.foldl addEdge nx) i < 512
  | [], _, _, h => h
  | q :: t, nx, hq, h => foldl_addEdge_lt t _ (fun x hx => hq x (by simp [hx])) (addEdge_lt (hq q (by simp)) h)
theorem nxs_lt {qs : List (Nat × Nat)} (h : ∀ q ∈ qs, q.1 < 9 ∧ q.2 < 9) (i : Nat) : nxs qs i < 512 := foldl_addEdge_lt qs _ h (fun _ => by omega) i

theorem full_facts {N : Nat} (hN : 2 ≤ N ∧ N ≤ 9) : 0 < 2 ^ N - 1 ∧ lowIx (2 ^ N - 1) = 0 := by
  have q : ((List.range 10).all fun N => decide (N < 2) || (decide (0 < 2 ^ N - 1) && lowIx (2 ^ N - 1) == 0)) = true := by kernel_rfl
  have q1 := List.all_eq_true.1 q N (List.mem_range.2 (by omega))
  simp only [Bool.or_eq_true, Bool.and_eq_true, beq_iff_eq, decide_eq_true_eq] at q1
  omega

/-- All places are connected, by bits and by pairs. -/
theorem linked_bits {N : Nat} (hN : 2 ≤ N ∧ N ≤ 9) {ps : List (Int × Int)} (hE : EdgesTo N ps ps.length) :
    (∀ j, (2 ^ N - 1).testBit j = true → Rch (BitAdj (nxs (nats ps)) (2 ^ N - 1)) (lowIx (2 ^ N - 1)) j) ↔ Linked N ps (-1) := by
  have hm := nats_mem hE
  have hb := nxs_bit (qs := nats ps) (fun q hq => (hm q hq).1)
  have hlt : ∀ a b, Adj (nats ps) a b → a < N ∧ b < N := by
    rintro a b (h | h)
    · have := hm _ h; simp at this; omega
    · have := hm _ h; simp at this; omega
  have hA : ∀ a b, BitAdj (nxs (nats ps)) (2 ^ N - 1) a b ↔ AdjBut (nats ps) (-1) a b := by
    intro a b
    unfold BitAdj AdjBut
    rw [hb, Nat.testBit_two_pow_sub_one, decide_eq_true_eq]
    exact ⟨fun h => ⟨h.1, by omega, by omega⟩, fun h => ⟨h.1, (hlt a b h.1).2⟩⟩
  rw [(full_facts hN).2]
  unfold Linked
  constructor
  · intro h i hi _
    exact (h i (by rw [Nat.testBit_two_pow_sub_one]; simpa using hi)).mono fun a b => (hA a b).1
  · intro h j hj
    rw [Nat.testBit_two_pow_sub_one, decide_eq_true_eq] at hj
    exact (h j hj (by omega)).mono fun a b => (hA a b).2

theorem connected_calls' (w : World) (g N : Nat) (hN : 2 ≤ N ∧ N ≤ 9) (nx : Nat → Nat) (hb : BoardAt w g N nx) (hnx : ∀ i, nx i < 512) (set : Nat) (hs : 0 < set ∧ set < 2 ^ N) (x : Int) (hx : x = (set : Int)) :
    CallsIn Fence.wide 0 Tryd.prog 61 #[.pointer (some ⟨g, 0, none⟩), .int .i64 x] w fun e w' => Says (∀ j, set.testBit j = true → Rch (BitAdj nx set) (lowIx set) j) e ∧ w = w' := by
  subst hx
  exact connected_calls w g N hN nx hb hnx set hs

/-- The cells of a board. -/
def boardCell (N : Nat) (nx : Nat → Nat) : Nat → Value := fun i => if i = 0 then .int .i64 (N : Int) else .int .i64 ((nx (i - 1) : Nat) : Int)
theorem ArrAt.board {w : World} {g N : Nat} {nx : Nat → Nat} (h : ArrAt w g 10 (boardCell N nx)) : BoardAt w g N nx :=
  ⟨(h 0 (by omega)).1, fun i hi => by
    have := (h (1 + i) (by omega)).1
    unfold boardCell at this
    rw [if_neg (by omega), Nat.add_sub_cancel_left] at this
    exact this⟩

/-- The pair before the k-th one. -/
def prevPair (ps : List (Int × Int)) (k : Nat) : Int × Int := if k = 0 then (-1, -1) else ps.getD (k - 1) (0, 0)
theorem edgeOK_iff {n : Int} {ps : List (Int × Int)} {k : Nat} : EdgeOK n ps k ↔ ¬ (cmp2 (ps.getD k (0, 0)).1 (ps.getD k (0, 0)).2 (prevPair ps k).1 (prevPair ps k).2 ≤ 0) ∧ ¬ ((ps.getD k (0, 0)).1 < 0) ∧ ¬ ((ps.getD k (0, 0)).1 ≥ (ps.getD k (0, 0)).2) ∧ ¬ ((ps.getD k (0, 0)).2 ≥ n) := by
  unfold EdgeOK cmp2 cmpI prevPair
  generalize ps.getD k (0, 0) = p
  by_cases h0 : k = 0
  · subst h0
    simp only [if_true, Nat.lt_irrefl, false_implies, and_true]
    constructor
    · intro h
      refine ⟨?_, by omega, by omega, by omega⟩
      repeat' split
      all_goals omega
    · intro h; omega
  · rw [if_neg h0]
    generalize ps.getD (k - 1) (0, 0) = q
    have : 0 < k := by omega
    constructor
    · rintro ⟨h1, h2⟩
      have h2 := h2 this
      refine ⟨?_, by omega, by omega, by omega⟩
      repeat' split
      all_goals omega
    · rintro ⟨h1, h2, h3, h4⟩
      refine ⟨by omega, fun _ => ?_⟩
      revert h1
      repeat' split
      all_goals omega

theorem ArrAt.new (w : World) (cs : Array Value) (t : TypeId) {n : Nat} {f : Nat → Value} (h : ∀ i, i < n → cs[i]? = some (f i)) : ArrAt (w.alloc (.cells cs t)) w.heap.size n f :=
  fun i hi => ⟨by rw [World.cell?_alloc_new]; exact h i hi, World.frozen?_alloc_new _ _ _ _⟩
theorem ArrAt.alloc {w : World} {g n : Nat} {f : Nat → Value} (h : ArrAt w g n f) (hg : g < w.heap.size) (o : Obj) : ArrAt (w.alloc o) g n f :=
  fun i hi => ⟨by rw [World.cell?_alloc_lt _ _ _ hg]; exact (h i hi).1, by rw [World.frozen?_alloc_old _ _ _ (by simp; omega)]; exact (h i hi).2⟩
theorem ArrAt.lt {w : World} {g n : Nat} {f : Nat → Value} (h : ArrAt w g n f) (hn : 0 < n) : g < w.heap.size := World.block_lt_of_cell? _ _ (h 0 hn).1
theorem ArrAt.far {w : World} {g n : Nat} {f : Nat → Value} (h : ArrAt w g n f) {p : Addr} (hp : p.block ≠ g) (v : Value) : ArrAt (w.setCell p v) g n f :=
  fun i hi => ⟨by rw [World.cell?_setCell_other _ _ _ _ (by intro q; apply hp; rw [q])]; exact (h i hi).1, by rw [World.frozen?_setCell]; exact (h i hi).2⟩

theorem small_cells (P : Nat → Prop) (n : Nat) (h : ∀ i, i < n → P i) : ∀ i, i < n → P i := h

theorem EdgesTo.take {n : Int} {ps : List (Int × Int)} {k : Nat} (h : EdgesTo n ps k) : EdgesTo n (ps.take k) (ps.take k).length := by
  intro i hi
  have hi' : i < k := by simp at hi; omega
  have e : ∀ j, j < k → (ps.take k).getD j (0, 0) = ps.getD j (0, 0) := fun j hj => by
    simp [List.getD_eq_getElem?_getD, List.getElem?_take, hj]
  have := h i hi'
  unfold EdgeOK at *
  rw [e i hi', e (i - 1) (by omega)]
  exact this

theorem nxs_next {ps : List (Int × Int)} {k X Y : Nat} (hlt : k < ps.length) (h : ps.getD k (0, 0) = ((X : Int), (Y : Int))) : nxs (nats (ps.take (k + 1))) = addEdge (nxs (nats (ps.take k))) (X, Y) := by
  have e : ps[k] = ((X : Int), (Y : Int)) := by
    rw [List.getD_eq_getElem?_getD, List.getElem?_eq_getElem hlt] at h
    exact h
  unfold nxs nats
  rw [List.take_succ_eq_append_getElem hlt, List.map_append, List.foldl_append, e]
  rfl

/-- How far the loop of 'open' has come. -/
structure OpenRel (w wr : World) (N : Nat) (ps : List (Int × Int)) (k : Nat) : Prop where
  below : Below w.heap.size w wr
  size : w.heap.size + 1 < wr.heap.size
  board : ArrAt wr w.heap.size 10 (boardCell N (nxs (nats (ps.take k))))
  last : ArrAt wr (w.heap.size + 1) 2 fun i => .int .i64 (if i = 0 then (prevPair ps k).1 else (prevPair ps k).2)
  edges : EdgesTo N ps k

theorem nxs_nil (i : Nat) : nxs (nats ([] : List (Int × Int))) i = 0 := rfl
theorem OpenRel.start (w : World) (N : Nat) (ps : List (Int × Int)) : OpenRel w ((w.alloc (.cells #[.int .i64 (N : Int), .int .i64 0, .int .i64 0, .int .i64 0, .int .i64 0, .int .i64 0, .int .i64 0, .int .i64 0, .int .i64 0, .int .i64 0] 102)).alloc (.cells #[.int .i64 (-1), .int .i64 (-1)] 75)) N ps 0 := by
  have hs : (w.alloc (.cells #[.int .i64 (N : Int), .int .i64 0, .int .i64 0, .int .i64 0, .int .i64 0, .int .i64 0, .int .i64 0, .int .i64 0, .int .i64 0, .int .i64 0] 102)).heap.size = w.heap.size + 1 := by simp
  refine ⟨((Below.refl _ _).alloc (Nat.le_refl _) _).alloc (by simp) _, by simp, ?_, ?_, fun i h => by omega⟩
  · refine (ArrAt.new w _ _ ?_).alloc (by simp) _
    intro i hi
    have : i = 0 ∨ i = 1 ∨ i = 2 ∨ i = 3 ∨ i = 4 ∨ i = 5 ∨ i = 6 ∨ i = 7 ∨ i = 8 ∨ i = 9 := by omega
    rcases this with rfl | rfl | rfl | rfl | rfl | rfl | rfl | rfl | rfl | rfl <;> rfl
  · rw [← hs]
    refine ArrAt.new _ _ _ ?_
    intro i hi
    have : i = 0 ∨ i = 1 := by omega
    rcases this with rfl | rfl <;> rfl

@[simp] theorem wide_fn (f : FuncId) : Fence.wide.fn f := trivial
@[simp] theorem wide_depth : Fence.wide.depth = none := rfl

theorem below_drewN {B : Nat} {a w : World} (h : Below B a w) (q : Nat) : Below B a (w.drewN q) := ⟨h.os, h.tape, h.output, h.size, h.block⟩
/-- What 'open' answers: an error, or a board. -/
def OpenPost (w : World) (n : Int) (ps : List (Int × Int)) (e : Ending) (w' : World) : Prop :=
  Below w.heap.size w w' ∧ ((∃ c, c ≠ 0 ∧ BoardErr n ps c ∧ e = .returned (.tuple #[.pointer none, .int .i64 c])) ∨
    (BoardErr n ps 0 ∧ ∃ g, e = .returned (.tuple #[.pointer (some ⟨g, 0, none⟩), .int .i64 0]) ∧ w.heap.size ≤ g ∧ ArrAt w' g 10 (boardCell n.toNat (nxs (nats ps)))))
theorem OpenPost.bad {w w' : World} {N : Nat} {ps : List (Int × Int)} {e : Ending} (hN : 2 ≤ N ∧ N ≤ 9) (hb : Below w.heap.size w w') (h : ¬ IsBoard N ps) (he : e = .returned (.tuple #[.pointer none, .int .i64 100])) : OpenPost w N ps e w' :=
  ⟨hb, .inl ⟨100, by decide, .inr (.inl ⟨by omega, by simpa using h, rfl⟩), he⟩⟩

set_option maxRecDepth 100000 in
set_option maxHeartbeats 8000000 in
theorem open_walk (w : World) (N : Nat) (hN : 2 ≤ N ∧ N ≤ 9) (v : Value) (ps : List (Int × Int)) (hv : PairsAt w v ps) (hl : ps.length ≤ 1000) :
    CallsIn Fence.wide 0 Tryd.prog 49 #[.int .i64 (N : Int), v] w fun e w' => OpenPost w N ps e w' := by
  have HL := Hid.intro hl
  obtain ⟨o, cap, rfl, HV⟩ : ∃ o cap, v = .slice o ps.length cap ∧ Hid (0 < ps.length → ∃ a : Addr, o = some a ∧ a.block < w.heap.size ∧ ∀ i, i < 2 * ps.length → w.cell? (a.add i) = some (.int .i64 ((flat ps).getD i 0))) := by
    rcases hv with ⟨rfl, rfl⟩ | ⟨a, cap, rfl, hcap, hl2, ha, hc⟩
    · exact ⟨none, 0, rfl, fun h => by simp at h⟩
    · exact ⟨some a, cap, rfl, fun h0 => ⟨a, rfl, ha h0, hc⟩⟩
  clear hv
  refine callsIn_of_wp Tryd.func49 rfl trivial ?_ rfl
  simp only [Tryd.ntmps49, List.size_toArray, List.length_cons, List.length_nil, Nat.reduceAdd, Nat.reduceSub, Array.replicate_succ, Array.replicate_zero, List.push_toArray, List.append_toArray, List.nil_append, List.cons_append]
  gi_wp2
  gi_loopw [22] (fun i wr => ∃ k : Nat, k ≤ ps.length ∧ i = .int .i64 (k : Int) ∧ Hid (OpenRel w wr N ps k)) (fun i _ => ps.length - (intOf i).toNat)
  case atStart =>
    exact ⟨0, by omega, rfl, OpenRel.start w N ps⟩
  case round =>
    obtain ⟨k, hk, rfl, HR⟩ := hrel
    have hsz := HR.out.size
    by_cases hlt : k < ps.length
    · obtain ⟨a, rfl, ha, hc⟩ := HV.out (by omega)
      obtain ⟨p, hp⟩ : ∃ p, ps.getD k (0, 0) = p := ⟨_, rfl⟩
      have g0 : wr.cell? (a.add (k * 2)) = some (.int .i64 p.1) := by
        rw [HR.out.below.cell (by rw [add_block]; exact ha), hc _ (by omega), Nat.mul_comm, flat_fst, hp]
      have g1 : wr.cell? ⟨(a.add (k * 2)).block, (a.add (k * 2)).off + 1, none⟩ = some (.int .i64 p.2) := by
        rw [add_add_one, HR.out.below.cell (by rw [add_block]; exact ha), hc _ (by omega), Nat.mul_comm, flat_snd, hp]
      have HP := Hid.intro hp
      clear hc hp
      by_cases hok : EdgeOK N ps k
      · have hno := edgeOK_iff.1 hok
        rw [HP.out] at hno
        obtain ⟨l, hl'⟩ : ∃ l, prevPair ps k = l := ⟨_, rfl⟩
        rw [hl'] at hno
        have t0 : wr.cell? ⟨w.heap.size + 1, 0, none⟩ = some (.int .i64 l.1) := by rw [(HR.out.last 0 (by omega)).1, hl']; rfl
        have t1 : wr.cell? ⟨w.heap.size + 1, 1, none⟩ = some (.int .i64 l.2) := by rw [(HR.out.last 1 (by omega)).1, hl']; rfl
        have f0 := (HR.out.last 0 (by omega)).2
        have f1 := (HR.out.last 1 (by omega)).2
        have HO := Hid.intro hok
        have h1 : decide (cmp2 p.1 p.2 l.1 l.2 ≤ 0) = false := by simpa using hno.1
        have hp1 : 0 ≤ p.1 ∧ p.1 < p.2 ∧ p.2 < (N : Int) := by omega
        have HQ := Hid.intro hl'
        clear hl' hok hno
        obtain ⟨x, y⟩ := p
        simp only at g0 g1 h1 hp1 HP
        obtain ⟨X, rfl⟩ : ∃ X : Nat, x = (X : Int) := ⟨x.toNat, by omega⟩
        obtain ⟨Y, rfl⟩ : ∃ Y : Nat, y = (Y : Int) := ⟨y.toNat, by omega⟩
        obtain ⟨nx, hnx⟩ : ∃ nx, nxs (nats (ps.take k)) = nx := ⟨_, rfl⟩
        have HA := Hid.intro HR.out.board
        rw [hnx] at HA
        have HNX := Hid.intro hnx
        clear hnx
        have hXY : X < Y := by omega
        have hYN : Y < N := by omega
        have h2 : decide (Y ≤ X) = false := by simp; omega
        have h3 : decide (N ≤ Y) = false := by simp; omega
        have h4 : decide ((X : Int) < 0) = false := by simp
        clear hp1
        gi_wp2
        gi_quiet ((gi_at_call 64; refine CallsIn.quiet_of_same ((compare2_calls _ _ _ (X : Int) (Y : Int) l.1 l.2 _ _ ?_ ?_ ?_ ?_).mono (fun _ _ h => ⟨h.1, h.2.symm⟩)) <;> go_simp))
        gi_wp2
        obtain ⟨W1, hW1⟩ : ∃ W1, W1 = (wr.alloc (.cells #[.int .i64 (X : Int), .int .i64 (Y : Int)] 75)).drewN nq := ⟨_, rfl⟩
        rw [← hW1]
        have HB1 : Hid (Below w.heap.size w W1) := by rw [hW1]; exact below_drewN (HR.out.below.alloc (by omega) _) _
        have HA1 : Hid (ArrAt W1 w.heap.size 10 (boardCell N nx)) := by rw [hW1]; exact HA.out.alloc (by omega) _
        have HL1 : Hid (ArrAt W1 (w.heap.size + 1) 2 fun i => .int .i64 (if i = 0 then l.1 else l.2)) := by
          have := HR.out.last; rw [HQ.out] at this
          rw [hW1]; exact this.alloc (by omega) _
        have HE1 : Hid (ArrAt W1 wr.heap.size 2 fun i => .int .i64 (if i = 0 then (X : Int) else (Y : Int))) := by
          rw [hW1]
          refine ArrAt.new wr _ _ ?_
          intro i hi
          have : i = 0 ∨ i = 1 := by omega
          rcases this with rfl | rfl <;> rfl
        have hs1 : W1.heap.size = wr.heap.size + 1 := by rw [hW1]; simp
        have HS1 := Hid.intro hs1
        clear hW1 hs1 t0 t1 f0 f1 g0 g1 h1 h2 h3 h4 HA
        have e0 : W1.cell? ⟨wr.heap.size, 0, none⟩ = some (.int .i64 (X : Int)) := (HE1.out 0 (by omega)).1
        have e1 : W1.cell? ⟨wr.heap.size, 1, none⟩ = some (.int .i64 (Y : Int)) := (HE1.out 1 (by omega)).1
        have b0 : W1.cell? ⟨w.heap.size, 1 + X, none⟩ = some (.int .i64 ((nx X : Nat) : Int)) := HA1.out.board.next X (by omega)
        have z0 := (HA1.out (1 + X) (by omega)).2
        gi_region
        gi_wp2
        have HTK := Hid.intro HR.out.edges.take
        have hn9 : ∀ i, nx i < 512 := by
          rw [← HNX.out]
          exact nxs_lt fun q hq => by have := nats_mem HTK.out q hq; omega
        have HN9 := Hid.intro hn9
        obtain ⟨W2, hW2⟩ : ∃ W2, W2 = (W1.setCell ⟨w.heap.size, 1 + X, none⟩ (.int .i64 (bits BinOp.or IntKind.i64 ((nx X : Nat) : Int) (wrap64 (2 ^ Y))))).drew := ⟨_, rfl⟩
        rw [← hW2]
        rw [or_bit (hn9 X) (by omega)] at hW2
        have HB2 : Hid (Below w.heap.size w W2) := by rw [hW2]; exact (HB1.out.setCell (Nat.le_refl _) _).drew
        have HA2 : Hid (ArrAt W2 w.heap.size 10 (fun j => if j = 1 + X then .int .i64 ((nx X ||| 2 ^ Y : Nat) : Int) else boardCell N nx j)) := by
          rw [hW2]; exact HA1.out.set (by omega) _
        have HL2 : Hid (ArrAt W2 (w.heap.size + 1) 2 fun i => .int .i64 (if i = 0 then l.1 else l.2)) := by
          rw [hW2]; exact HL1.out.far (by simp) _
        have HE2 : Hid (ArrAt W2 wr.heap.size 2 fun i => .int .i64 (if i = 0 then (X : Int) else (Y : Int))) := by
          rw [hW2]; exact HE1.out.far (by show w.heap.size ≠ _; omega) _
        have HS2 : Hid (W2.heap.size = wr.heap.size + 1) := by rw [hW2]; show (W1.setCell _ _).heap.size = _; rw [World.size_setCell]; exact HS1.out
        clear hW2 hn9 e0 e1 b0 z0 HB1 HA1 HL1 HE1 HS1
        have e0 : W2.cell? ⟨wr.heap.size, 0, none⟩ = some (.int .i64 (X : Int)) := (HE2.out 0 (by omega)).1
        have e1 : W2.cell? ⟨wr.heap.size, 1, none⟩ = some (.int .i64 (Y : Int)) := (HE2.out 1 (by omega)).1
        have b0 : W2.cell? ⟨w.heap.size, 1 + Y, none⟩ = some (.int .i64 ((nx Y : Nat) : Int)) := by
          rw [(HA2.out (1 + Y) (by omega)).1]
          show some (if 1 + Y = 1 + X then _ else boardCell N nx (1 + Y)) = _
          rw [if_neg (by omega)]
          unfold boardCell
          rw [if_neg (by omega), Nat.add_sub_cancel_left]
        have t0 : W2.cell? ⟨w.heap.size + 1, 0, none⟩ = some (.int .i64 l.1) := (HL2.out 0 (by omega)).1
        have t1 : W2.cell? ⟨w.heap.size + 1, 1, none⟩ = some (.int .i64 l.2) := (HL2.out 1 (by omega)).1
        have f0 := (HL2.out 0 (by omega)).2
        have f1 := (HL2.out 1 (by omega)).2
        have z0 := (HA2.out (1 + Y) (by omega)).2
        gi_region
        gi_wp2
        have hnext : nxs (nats (ps.take (k + 1))) = addEdge nx (X, Y) := by
          rw [← HNX.out]
          exact nxs_next hlt HP.out
        have HNN := Hid.intro hnext
        clear hnext
        refine ⟨⟨k + 1, by omega, by go_num, ?_⟩, by simp [intOf]; omega⟩
        rw [or_bit (HN9.out Y) (by omega)]
        refine ⟨(((HB2.out.setCell (Nat.le_refl _) _).setCell (by show _ ≤ w.heap.size + 1; omega) _).setCell (by show _ ≤ w.heap.size + 1; omega) _).drew, ?_, ?_, ?_, HR.out.edges.next HO.out⟩
        · show _ < (World.setCell _ _ _).heap.size
          rw [World.size_setCell, World.size_setCell, World.size_setCell, HS2.out]
          omega
        · rw [HNN.out]
          refine ArrAt.congr (f := fun j => if j = 1 + Y then .int .i64 ((nx Y ||| 2 ^ X : Nat) : Int) else if j = 1 + X then .int .i64 ((nx X ||| 2 ^ Y : Nat) : Int) else boardCell N nx j) (((HA2.out.set (by omega) _).far (by simp) _).far (by simp) _) ?_
          intro j hj
          unfold boardCell addEdge
          by_cases c0 : j = 0
          · subst c0
            simp
            rw [if_neg (by omega), if_neg (by omega)]
          · by_cases c1 : j = 1 + Y
            · subst c1
              simp
              rw [if_neg (by omega)]
            · by_cases c2 : j = 1 + X
              · subst c2
                simp
                intro q; omega
              · simp only [if_neg c0, if_neg c1, if_neg c2]
                rw [if_neg (by omega), if_neg (by omega)]
        · have h3 := (((HL2.out.far (p := ⟨w.heap.size, 1 + Y, none⟩) (by simp) (.int .i64 ((nx Y ||| 2 ^ X : Nat) : Int))).set (i := 0) (by omega) (.int .i64 (X : Int))).set (i := 1) (by omega) (.int .i64 (Y : Int)))
          refine ArrAt.congr h3 ?_
          intro j hj
          have hp : prevPair ps (k + 1) = ((X : Int), (Y : Int)) := by
            unfold prevPair
            rw [if_neg (by omega), Nat.add_sub_cancel]
            exact HP.out
          rw [hp]
          have : j = 0 ∨ j = 1 := by omega
          rcases this with rfl | rfl <;> rfl
      · have hno := hok
        rw [edgeOK_iff, HP.out] at hno
        obtain ⟨l, hl'⟩ : ∃ l, prevPair ps k = l := ⟨_, rfl⟩
        rw [hl'] at hno
        have t0 : wr.cell? ⟨w.heap.size + 1, 0, none⟩ = some (.int .i64 l.1) := by rw [(HR.out.last 0 (by omega)).1, hl']; rfl
        have t1 : wr.cell? ⟨w.heap.size + 1, 1, none⟩ = some (.int .i64 l.2) := by rw [(HR.out.last 1 (by omega)).1, hl']; rfl
        have HO := Hid.intro hok
        clear hl' hok
        have hcase : (decide (cmp2 p.1 p.2 l.1 l.2 ≤ 0) = true) ∨ (decide (cmp2 p.1 p.2 l.1 l.2 ≤ 0) = false ∧ decide (p.1 < 0) = true) ∨ (decide (cmp2 p.1 p.2 l.1 l.2 ≤ 0) = false ∧ decide (p.1 < 0) = false ∧ decide (p.2 ≤ p.1) = true) ∨ (decide (cmp2 p.1 p.2 l.1 l.2 ≤ 0) = false ∧ decide (p.1 < 0) = false ∧ decide (p.2 ≤ p.1) = false ∧ decide ((N : Int) ≤ p.2) = true) := by
          simp only [decide_eq_true_eq, decide_eq_false_iff_not]
          omega
        clear hno
        gi_wp2
        rcases hcase with h1 | ⟨h1, h2⟩ | ⟨h1, h2, h3⟩ | ⟨h1, h2, h3, h4⟩
        all_goals
          gi_quiet ((gi_at_call 64; refine CallsIn.quiet_of_same ((compare2_calls _ _ _ p.1 p.2 l.1 l.2 _ _ ?_ ?_ ?_ ?_).mono (fun _ _ h => ⟨h.1, h.2.symm⟩)) <;> go_simp))
          gi_wp2
          all_goals (first | go_returns | go_ret | go_end0)
          exact OpenPost.bad hN (below_drewN (HR.out.below.alloc (by omega) _) _) (fun q => HO.out (q.1 k hlt)) rfl
    · have hkl : k = ps.length := by omega
      have hE : EdgesTo N ps ps.length := by have := HR.out.edges; rw [hkl] at this; exact this
      have hba : BoardAt wr w.heap.size N (nxs (nats ps)) := by
        have := HR.out.board.board
        rw [List.take_of_length_le (by omega)] at this
        exact this
      have hm := nats_mem hE
      have hcon := connected_calls' wr w.heap.size N hN _ hba (nxs_lt (fun q hq => by have := hm q hq; omega)) (2 ^ N - 1) ⟨(full_facts hN).1, by have := Nat.two_pow_pos N; omega⟩ _ (full_num (by omega))
      have HC := Hid.intro hcon
      have HE := Hid.intro hE
      clear hm hba hE hcon
      gi_wp2_with (gi_at_call 61; refine HC.out.mono ?_; rintro e w1 ⟨⟨b, hb, rfl⟩, rfl⟩)
      all_goals (first | go_returns | go_ret | go_end0)
      · have hb' : (!b) = true := by assumption
        refine OpenPost.bad hN HR.out.below (fun q => ?_) rfl
        have := hb.2 ((linked_bits hN HE.out).2 q.2)
        rw [this] at hb'
        cases hb'
      · have hb' : (!b) = false := by assumption
        have hb2 : b = true := by simpa using hb'
        refine ⟨HR.out.below, .inr ⟨.inr (.inr ⟨by omega, ⟨by simpa using HE.out, by simpa using (linked_bits hN HE.out).1 (hb.1 hb2)⟩, rfl⟩), w.heap.size, rfl, Nat.le_refl _, ?_⟩⟩
        have := HR.out.board
        rw [List.take_of_length_le (by omega)] at this
        simpa using this

set_option maxHeartbeats 4000000 in
theorem open_not (w : World) (n : Int) (hn : ¬ (2 ≤ n ∧ n ≤ 9)) (v : Value) (ps : List (Int × Int)) :
    CallsIn Fence.wide 0 Tryd.prog 49 #[.int .i64 n, v] w fun e w' => OpenPost w n ps e w' := by
  have HN := Hid.intro hn
  refine callsIn_of_wp Tryd.func49 rfl trivial ?_ rfl
  simp only [Tryd.ntmps49, List.size_toArray, List.length_cons, List.length_nil, Nat.reduceAdd, Nat.reduceSub, Array.replicate_succ, Array.replicate_zero, List.push_toArray, List.append_toArray, List.nil_append, List.cons_append]
  rcases (show n < 2 ∨ (2 ≤ n ∧ 9 < n) by omega) with h | ⟨h, h'⟩
  all_goals
    refine cut2 fun z => ?_
    gi_wp2
    all_goals (first | go_returns | go_ret | go_end0)
    all_goals exact ⟨Below.refl _ _, .inl ⟨1, by decide, .inl ⟨HN.out, rfl⟩, rfl⟩⟩

/-- **'open' of the program.** -/
theorem open_calls (w : World) (n : Int) (v : Value) (ps : List (Int × Int)) (hv : PairsAt w v ps) (hl : ps.length ≤ 1000) :
    CallsIn Fence.wide 0 Tryd.prog 49 #[.int .i64 n, v] w fun e w' => OpenPost w n ps e w' := by
  by_cases h : 2 ≤ n ∧ n ≤ 9
  · obtain ⟨N, rfl⟩ : ∃ N : Nat, n = (N : Int) := ⟨n.toNat, by omega⟩
    exact open_walk w N (by omega) v ps hv hl
  · exact open_not w n h v ps
end Go.Eng
