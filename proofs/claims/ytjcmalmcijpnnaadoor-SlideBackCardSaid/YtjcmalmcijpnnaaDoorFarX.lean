/-
  What the reference's search answers, and what its 'Size' does.
  Conditions: none.
-/
import Derived.Test.YtjcmalmcijpnnaaDoorBfsX
import Derived.Sort.QuietIn

namespace Go.Eng
open Go.RowKit Go.Proofs Go.Proofs.YtjcmalmcijpnnaaDoor

/-- A block is a row of variables of this type. -/
def Typed (w : World) (g : Nat) (e : TypeId) : Prop := ∃ cs fz, w.heap[g]? = some (.cells cs e fz)
theorem Typed.kept {w w' : World} {g : Nat} {e : TypeId} (h : Typed w g e) (hb : w'.heap[g]? = w.heap[g]?) : Typed w' g e := by
  obtain ⟨cs, fz, h⟩ := h
  exact ⟨cs, fz, hb.trans h⟩
theorem Typed.lt {w : World} {g : Nat} {e : TypeId} (h : Typed w g e) : g < w.heap.size := by
  obtain ⟨cs, fz, h⟩ := h
  exact (Array.getElem?_eq_some_iff.1 h).1
theorem Typed.setCell {w : World} {g : Nat} {e : TypeId} (h : Typed w g e) (p : Addr) (v : Value) : Typed (w.setCell p v) g e := by
  obtain ⟨cs, fz, h⟩ := h
  by_cases hp : g = p.block
  · subst hp
    unfold Typed
    simp only [World.setCell, Array.getElem?_modify, h, if_true, Option.map_some]
    exact ⟨_, _, rfl⟩
  · exact ⟨cs, fz, (Below.heap_setCell w p v g hp).trans h⟩
theorem Typed.unique {w : World} {g : Nat} {e e' : TypeId} (h : Typed w g e) (h' : Typed w g e') : e = e' := by
  obtain ⟨cs, fz, h⟩ := h
  obtain ⟨cs', fz', h'⟩ := h'
  rw [h] at h'
  injection h' with h'
  injection h'

set_option maxRecDepth 100000 in
set_option maxHeartbeats 8000000 in
/-- **'Moved' of the reference.** -/
theorem refMoved_typed (w : World) (a : Addr) (N cap : Nat) (hN : 2 ≤ N ∧ N ≤ 9) (ha : a.block < w.heap.size) (z : Nat → Int) (hz : ∀ i, i < N → w.cell? (a.add i) = some (.int .i64 (z i))) (h : Nat) (hh : HoleAt z N h) (to : Nat) (hto : to < N) :
    CallsIn Fence.wide 0 Tryd.prog 31 #[.slice (some a) N cap, .int .i64 (to : Int)] w fun e w' => ∃ g cap', e = .returned (.slice (some ⟨g, 0, none⟩) N cap') ∧ w.heap.size ≤ g ∧ N ≤ cap' ∧ ArrAt w' g N (fun i => .int .i64 (swapAt z h to i)) ∧ Typed w' g 3 ∧ Below w.heap.size w w' := by
  have HZ := Hid.intro hz
  have HH := Hid.intro hh
  have hhN := hh.lt
  clear hz hh
  refine callsIn_of_wp Tryd.func31 rfl trivial ?_ rfl
  simp only [Tryd.ntmps31, List.size_toArray, List.length_cons, List.length_nil, Nat.reduceAdd, Nat.reduceSub, Array.replicate_succ, Array.replicate_zero, List.push_toArray, List.append_toArray, List.nil_append, List.cons_append]
  gi_wp2_with (gi_at_builtin; refine stop ?_)
  unfold Stop
  refine wpListIn_append_own _ rfl _ _ 38 rfl w.heap.size 3 Tryd.t3 _ 1 8 Go.Eng.u38 t3_info t3_zero t3_size t3_bytes rfl (by decide) _ 0 [] rfl (World.ownsRow_nil _ _ _ _) a N cap (((List.range N).map z).map (Value.int .i64)) rfl (by simp) ?_ (nums_one _) (by unfold maxLen; omega) (by omega) (Nat.le_refl _) ?_
  · intro j u hu
    rw [List.getElem?_map, Option.map_eq_some_iff] at hu
    obtain ⟨x, hx, rfl⟩ := hu
    rw [List.getElem?_map, Option.map_eq_some_iff] at hx
    obtain ⟨i, hi, rfl⟩ := hx
    have := List.getElem?_eq_some_iff.1 hi
    obtain ⟨h1, h2⟩ := this
    simp at h1 h2
    subst h2
    exact HZ.out j h1
  · intro v1 w1 hown1 hgrow1 _
    have hty1 : ∀ g cap, v1 = .slice (some ⟨g, 0, none⟩) N cap → Typed w1 g 3 := fun g cap e => by
      have h2 := hown1.2
      rw [e] at h2
      rcases h2 with ⟨h, _⟩ | ⟨g', cap', cur, h, _, h3, _⟩
      · simp at h
      · simp at h
        rw [← h.1] at h3
        exact ⟨_, _, h3⟩
    have hB1 : Below w.heap.size w w1 := (Below.refl _ w).grown hgrow1 (Nat.le_refl _) (fun _ h => by cases h)
    obtain ⟨g, cap1, rfl, hcap1, hgw⟩ : ∃ g cap1, v1 = .slice (some ⟨g, 0, none⟩) N cap1 ∧ N ≤ cap1 ∧ w.heap.size ≤ g := by
      rcases hown1.2 with ⟨_, h⟩ | ⟨g, cap1, _, h, h1, _, h3, _⟩
      · omega
      · rw [Nat.zero_add] at h h3; exact ⟨g, cap1, h, h3, h1⟩
    have HA1 : Hid (ArrAt w1 g N fun i => .int .i64 (z i)) := by
      rw [Nat.zero_add] at hown1
      refine ArrAt.of_row hown1 fun i hi => ?_
      simp [hi]
    have HTY : Hid (Typed w1 g 3) := hty1 g cap1 rfl
    have HB1 := Hid.intro hB1
    have hz1 : ∀ i, i < N → w1.cell? (a.add i) = some (.int .i64 (z i)) := fun i hi => (hB1.cell (p := a.add i) (by rw [add_block]; exact ha)).trans (HZ.out i hi)
    have HC := Hid.intro (refHole_calls w1 a N cap (by omega) z hz1 h hhN HH.out.zero HH.out.first)
    have ct := hz1 to hto
    have d0 := (HA1.out h hhN).1
    have d1 := (HA1.out h hhN).2
    have e1 := (HA1.out to hto).2
    obtain ⟨vv, e0⟩ : ∃ v, (w1.setCell ⟨g, h, none⟩ (.int .i64 (z to))).cell? ⟨g, to, none⟩ = some v := ⟨_, (HA1.out.set hhN (.int .i64 (z to)) to hto).1⟩
    clear hown1 hgrow1 hB1 hz1 hty1
    gi_wp2_with (gi_at_call 30; refine HC.out.mono ?_; rintro e w2 ⟨rfl, rfl⟩)
    all_goals (first | go_returns | go_ret | go_end0)
    refine ⟨g, cap1, rfl, hgw, hcap1, ?_, (HTY.out.setCell _ _).setCell _ _, (HB1.out.setCell (p := ⟨g, h, none⟩) hgw _).setCell (p := ⟨g, to, none⟩) hgw _⟩
    have hA2 := (HA1.out.set hhN (.int .i64 (z to))).set hto (.int .i64 0)
    refine hA2.congr fun j _ => ?_
    unfold swapAt
    have hz0 := HH.out.zero
    by_cases e1 : j = to
    · simp [e1, hz0]
    · by_cases e2 : j = h
      · subst e2
        simp [e1]
      · simp [e1, e2]

end Go.Eng

namespace Go.Eng
open Go.RowKit Go.Proofs Go.Proofs.YtjcmalmcijpnnaaDoor

theorem grownBy_set (w : World) (p : Addr) (v : Value) : w.grownBy (w.setCell p v) (some p.block) :=
  ⟨rfl, rfl, rfl, by simp [World.setCell], fun k _ hk => Below.heap_setCell w p v k (fun e => hk (by rw [e]))⟩
theorem Below.grownBy {w w' : World} (h : Below w.heap.size w w') : w.grownBy w' none := ⟨h.os, h.tape, h.output, h.size, fun k hk _ => h.block k hk⟩
theorem ownsRow_below {w w' : World} {base : Nat} {e : TypeId} {size n : Nat} {v : Value} {xs : List Value} (h : w.ownsRow base e size v n xs) (hb : Below w.heap.size w w') : w'.ownsRow base e size v n xs :=
  h.kept (Below.grownBy hb) (by cases v.ownBlock <;> simp)
theorem ownsRow_typed {w : World} {base : Nat} {e : TypeId} {size n : Nat} {v : Value} {xs : List Value} (h : w.ownsRow base e size v n xs) : ∀ k, v.ownBlock = some k → base ≤ k ∧ Typed w k e := by
  intro k hk
  rcases h.2 with ⟨rfl, _⟩ | ⟨g, cap, cur, rfl, hb, hg, _⟩
  · simp [Value.ownBlock] at hk
  · simp [Value.ownBlock] at hk
    subst hk
    exact ⟨hb, _, _, hg⟩

def farCell (gs F cnt M C : Nat) : Nat → Value := fun i => match i with
  | 0 => .slice (some ⟨gs, 0, none⟩) F F
  | 1 => .int .i64 (cnt : Int)
  | 2 => .int .i64 (M : Int)
  | _ => .int .i64 (C : Int)
def farZero : Nat → Value := fun i => match i with
  | 0 => .slice none 0 0
  | _ => .int .i64 0

/-- The three blocks that the search begins with. -/
structure FB (w : World) (F : Nat) (st : Nat → Int) (M C : Nat) (wr : World) : Prop where
  below : Below w.heap.size w wr
  size : w.heap.size + 3 ≤ wr.heap.size
  res : ArrAt wr w.heap.size 4 farZero
  steps : ArrAt wr (w.heap.size + 1) F fun i => .int .i64 (st i)
  out : ArrAt wr (w.heap.size + 2) 4 (farCell (w.heap.size + 1) F 0 M C)

theorem FB.step {w wr w' : World} {F M C : Nat} {st : Nat → Int} {row : Option Nat} (h : FB w F st M C wr) (hg : wr.grownBy w' row) (hr : ∀ k, row = some k → w.heap.size + 3 ≤ k) : FB w F st M C w' := by
  have hs := h.size
  refine ⟨h.below.grown hg (by omega) (fun k e => by have := hr k e; omega), Nat.le_trans h.size hg.size, ?_, ?_, ?_⟩
  · exact h.res.grown (by omega) hg (fun k e => by have := hr k e; omega)
  · exact h.steps.grown (by omega) hg (fun k e => by have := hr k e; omega)
  · exact h.out.grown (by omega) hg (fun k e => by have := hr k e; omega)
theorem FB.later {w wr w' : World} {F M C : Nat} {st : Nat → Int} (h : FB w F st M C wr) (hb : Below wr.heap.size wr w') : FB w F st M C w' := h.step (Below.grownBy hb) (fun k e => by cases e)
theorem FB.setS {w wr : World} {F M C : Nat} {st : Nat → Int} (h : FB w F st M C wr) {r : Nat} (hr : r < F) (d : Int) : FB w F (setSt st r d) M C (wr.setCell ⟨w.heap.size + 1, r, none⟩ (.int .i64 d)) := by
  refine ⟨h.below.setCell (p := ⟨w.heap.size + 1, r, none⟩) (Nat.le_succ _) _, by simpa [World.setCell] using h.size, h.res.far (p := ⟨w.heap.size + 1, r, none⟩) (by simp) _, ?_, h.out.far (p := ⟨w.heap.size + 1, r, none⟩) (by simp) _⟩
  refine (h.steps.set hr (.int .i64 d)).congr fun j _ => ?_
  unfold setSt
  split <;> rfl
theorem FB.setM {w wr : World} {F M C : Nat} {st : Nat → Int} (h : FB w F st M C wr) (d : Nat) : FB w F st d C (wr.setCell ⟨w.heap.size + 2, 2, none⟩ (.int .i64 (d : Int))) := by
  refine ⟨h.below.setCell (p := ⟨w.heap.size + 2, 2, none⟩) (by show _ ≤ w.heap.size + 2; omega) _, by simpa [World.setCell] using h.size, h.res.far (p := ⟨w.heap.size + 2, 2, none⟩) (by simp) _, h.steps.far (p := ⟨w.heap.size + 2, 2, none⟩) (by simp) _, ?_⟩
  refine (h.out.set (i := 2) (by omega) (.int .i64 (d : Int))).congr fun j hj => ?_
  have : j = 0 ∨ j = 1 ∨ j = 2 ∨ j = 3 := by omega
  rcases this with rfl | rfl | rfl | rfl <;> rfl
theorem FB.setC {w wr : World} {F M C : Nat} {st : Nat → Int} (h : FB w F st M C wr) (d : Nat) : FB w F st M d (wr.setCell ⟨w.heap.size + 2, 3, none⟩ (.int .i64 (d : Int))) := by
  refine ⟨h.below.setCell (p := ⟨w.heap.size + 2, 3, none⟩) (by show _ ≤ w.heap.size + 2; omega) _, by simpa [World.setCell] using h.size, h.res.far (p := ⟨w.heap.size + 2, 3, none⟩) (by simp) _, h.steps.far (p := ⟨w.heap.size + 2, 3, none⟩) (by simp) _, ?_⟩
  refine (h.out.set (i := 3) (by omega) (.int .i64 (d : Int))).congr fun j hj => ?_
  have : j = 0 ∨ j = 1 ∨ j = 2 ∨ j = 3 := by omega
  rcases this with rfl | rfl | rfl | rfl <;> rfl

def fillSt (k : Nat) : Nat → Int := fun j => if j < k then -1 else 0
theorem FB.congr {w wr : World} {F M C : Nat} {st st' : Nat → Int} (h : FB w F st M C wr) (e : ∀ j, j < F → st j = st' j) : FB w F st' M C wr :=
  ⟨h.below, h.size, h.res, h.steps.congr fun j hj => by rw [e j hj], h.out⟩

/-! ### The rows of neighbours -/
def nbsP (qs : List (Nat × Nat)) (i m : Nat) : List Nat := (List.range m).filter fun k => decide (i ≠ k) && nearB qs (i : Int) (k : Int)
theorem nbsP_succ (qs : List (Nat × Nat)) (i m : Nat) : nbsP qs i (m + 1) = nbsP qs i m ++ (if decide (i ≠ m) && nearB qs (i : Int) (m : Int) then [m] else []) := by
  unfold nbsP
  rw [List.range_succ, List.filter_append]
  congr 1
  cases h : (decide (i ≠ m) && nearB qs (i : Int) (m : Int)) with
  | true => rw [List.filter_cons, h]; rfl
  | false => rw [List.filter_cons, h]; rfl
theorem nums_mono {w : World} {b b' : Nat} {v : Value} {zs : List Int} (h : NumsAt w b v zs) (hb : b' ≤ b) : NumsAt w b' v zs := by
  refine ⟨h.1, ?_⟩
  rcases h.2 with h | ⟨g, cap, cur, h1, h2, h3⟩
  · exact .inl h
  · exact .inr ⟨g, cap, cur, h1, by omega, h3⟩
def NearAt (qs : List (Nat × Nat)) (N : Nat) (wr : World) (S : Nat) (vn : Value) (i : Nat) : Prop :=
  ∃ vs : List Value, wr.ownsRow S 38 1 vn i vs ∧ ∀ j, j < i → ∃ v, vs[j]? = some v ∧ NumsAt wr S v ((nbs qs N j).map fun k : Nat => (k : Int))
theorem NearAt.later {qs : List (Nat × Nat)} {N : Nat} {wr w' : World} {S : Nat} {vn : Value} {i : Nat} (h : NearAt qs N wr S vn i) (hb : Below wr.heap.size wr w') : NearAt qs N w' S vn i := by
  obtain ⟨vs, h1, h2⟩ := h
  refine ⟨vs, ownsRow_below h1 hb, fun j hj => ?_⟩
  obtain ⟨v, h3, h4⟩ := h2 j hj
  exact ⟨v, h3, ownsRow_below h4 hb⟩
/-- A row of numbers is kept when the row of rows grows. -/
theorem nums_off {w w' : World} {S S' k : Nat} {v vn : Value} {zs : List Int} {vs : List Value} (h : NumsAt w S v zs) (hn : w.ownsRow S' 38 1 vn k vs) (hg : w.grownBy w' vn.ownBlock) : NumsAt w' S v zs := by
  refine World.ownsRow.kept h hg ?_
  cases hv : v.ownBlock with
  | none => exact .inl rfl
  | some g =>
    refine .inr fun e => ?_
    have h1 := (ownsRow_typed h g hv).2
    have h2 := (ownsRow_typed hn g e.symm).2
    have := h1.unique h2
    cases this
theorem NearAt.append {qs : List (Nat × Nat)} {N : Nat} {wr w' : World} {S : Nat} {vn v' v : Value} {i : Nat} {vs : List Value} (h1 : wr.ownsRow S 38 1 vn i vs) (h2 : ∀ j, j < i → ∃ v, vs[j]? = some v ∧ NumsAt wr S v ((nbs qs N j).map fun k : Nat => (k : Int)))
    (hv : NumsAt wr S v ((nbs qs N i).map fun k : Nat => (k : Int))) (o : Obj) (hown : w'.ownsRow S 38 1 v' (i + 1) (vs ++ [v])) (hg : (wr.alloc o).grownBy w' vn.ownBlock) : NearAt qs N w' S v' (i + 1) := by
  have hlen : vs.length = i := by have := h1.1; omega
  have h1' := h1.alloc o
  refine ⟨_, hown, fun j hj => ?_⟩
  by_cases e : j = i
  · subst e
    exact ⟨v, by rw [List.getElem?_append_right (by omega), hlen]; simp, nums_off (World.ownsRow.alloc hv o) h1' hg⟩
  · obtain ⟨u, h3, h4⟩ := h2 j (by omega)
    exact ⟨u, by rw [List.getElem?_append_left (by omega)]; exact h3, nums_off (World.ownsRow.alloc h4 o) h1' hg⟩

/-- The rows of neighbours, as they lie. -/
theorem NearAt.cells {qs : List (Nat × Nat)} {N : Nat} {wr : World} {S : Nat} {vn : Value} (h : NearAt qs N wr S vn N) (hN : 0 < N) : ∃ (an : Addr) (capn : Nat), vn = .slice (some an) N capn ∧ S ≤ an.block ∧ an.block < wr.heap.size ∧
    ∀ i, i < N → ∃ o cap, wr.cell? (an.add i) = some (.slice o (nbs qs N i).length cap) ∧ (0 < (nbs qs N i).length → ∃ b : Addr, o = some b ∧ S ≤ b.block ∧ b.block < wr.heap.size ∧ ∀ j, j < (nbs qs N i).length → wr.cell? (b.add j) = some (.int .i64 (((nbs qs N i).getD j 0 : Nat) : Int))) := by
  obtain ⟨vs, h1, h2⟩ := h
  have h1' := h1
  rcases h1.2 with ⟨_, h0⟩ | ⟨g, capn, cur, rfl, hb, hg, _⟩
  · omega
  · refine ⟨⟨g, 0, none⟩, capn, rfl, hb, (Array.getElem?_eq_some_iff.1 hg).1, fun i hi => ?_⟩
    obtain ⟨v, h3, h4⟩ := h2 i hi
    have hc := h1'.cells rfl i _ h3
    have hl : ((nbs qs N i).map fun k : Nat => (k : Int)).length = (nbs qs N i).length := by simp
    have h4' := h4
    unfold NumsAt at h4
    rw [hl] at h4
    rcases h4.2 with ⟨rfl, h0⟩ | ⟨g', cap', cur', rfl, hb', hg', _⟩
    · exact ⟨none, 0, by rw [h0]; exact hc, fun h => by omega⟩
    · refine ⟨some ⟨g', 0, none⟩, cap', hc, fun h0 => ⟨_, rfl, hb', (Array.getElem?_eq_some_iff.1 hg').1, fun j hj => ?_⟩⟩
      exact h4.cells rfl j _ (by simp [hj])

theorem far_cell {p : Addr} {g : Nat} (hp : p.block ≠ g) (W : World) (j : Nat) (v : Value) : (W.setCell ⟨g, j, none⟩ v).cell? p = W.cell? p :=
  World.cell?_of_block (Below.heap_setCell W ⟨g, j, none⟩ v p.block hp)

/-! ### The queue -/
/-- What lay when the queue began lies yet, but for two blocks. -/
def Keep (G : Nat) (W wr : World) : Prop := W.heap.size ≤ wr.heap.size ∧ ∀ k, k < W.heap.size → k ≠ G + 1 → k ≠ G + 2 → wr.heap[k]? = W.heap[k]?
theorem Keep.refl (G : Nat) (W : World) : Keep G W W := ⟨Nat.le_refl _, fun _ _ _ _ => rfl⟩
theorem Keep.step {G : Nat} {W wr w' : World} {row : Option Nat} (h : Keep G W wr) (hg : wr.grownBy w' row) (hr : ∀ k, row = some k → k = G + 1 ∨ k = G + 2 ∨ W.heap.size ≤ k) : Keep G W w' :=
  ⟨Nat.le_trans h.1 hg.size, fun k hk h1 h2 => (hg.block k (Nat.lt_of_lt_of_le hk h.1) (fun e => by have := hr k e.symm; omega)).trans (h.2 k hk h1 h2)⟩
theorem Keep.later {G : Nat} {W wr w' : World} (h : Keep G W wr) (hb : Below wr.heap.size wr w') : Keep G W w' := h.step (Below.grownBy hb) (fun k e => by cases e)
theorem Keep.cell {G : Nat} {W wr : World} (h : Keep G W wr) {p : Addr} {v : Value} (hp : p.block < W.heap.size) (h1 : p.block ≠ G + 1) (h2 : p.block ≠ G + 2) (hc : W.cell? p = some v) : wr.cell? p = some v := by
  rw [World.cell?_of_block (h.2 _ hp h1 h2)]; exact hc

structure ElemIn (wr : World) (G S N : Nat) (a : Addr) (cap : Nat) (z : Nat → Int) : Prop where
  cap : N ≤ cap
  lt : a.block < wr.heap.size
  far : a.block < G ∨ (S ≤ a.block ∧ Typed wr a.block 3)
  cells : ∀ i, i < N → wr.cell? (a.add i) = some (.int .i64 (z i))
def ElemAt (wr : World) (G S N : Nat) (v : Value) (z : Nat → Int) : Prop := ∃ a cap, v = .slice (some a) N cap ∧ ElemIn wr G S N a cap z
theorem ElemIn.step {wr w' : World} {G S N cap : Nat} {a : Addr} {z : Nat → Int} {row : Option Nat} (h : ElemIn wr G S N a cap z) (hS : G + 3 ≤ S) (hg : wr.grownBy w' row) (hr : ∀ k, row = some k → k = G + 1 ∨ k = G + 2 ∨ (S ≤ k ∧ Typed wr k 38)) : ElemIn w' G S N a cap z := by
  have hne : some a.block ≠ row := fun e => by
    rcases hr _ e.symm with h1 | h1 | ⟨h1, h2⟩
    · rcases h.far with h3 | ⟨h3, _⟩ <;> omega
    · rcases h.far with h3 | ⟨h3, _⟩ <;> omega
    · rcases h.far with h3 | ⟨_, h3⟩
      · omega
      · have := h3.unique h2; cases this
  have hb := hg.block a.block h.lt hne
  refine ⟨h.cap, Nat.lt_of_lt_of_le h.lt hg.size, ?_, fun i hi => ?_⟩
  · rcases h.far with h3 | ⟨h3, h4⟩
    · exact .inl h3
    · exact .inr ⟨h3, h4.kept hb⟩
  · rw [World.cell?_of_block (w := wr) (a := a.add i) (by rw [add_block]; exact hb)]
    exact h.cells i hi
theorem ElemAt.step {wr w' : World} {G S N : Nat} {v : Value} {z : Nat → Int} {row : Option Nat} (h : ElemAt wr G S N v z) (hS : G + 3 ≤ S) (hg : wr.grownBy w' row) (hr : ∀ k, row = some k → k = G + 1 ∨ k = G + 2 ∨ (S ≤ k ∧ Typed wr k 38)) : ElemAt w' G S N v z := by
  obtain ⟨a, cap, rfl, h⟩ := h
  exact ⟨a, cap, rfl, h.step hS hg hr⟩

def QAt (wr : World) (G S N : Nat) (vq : Value) (L : List (Nat → Int)) : Prop := ∃ vs : List Value, wr.ownsRow S 38 1 vq L.length vs ∧ ∀ (j : Nat) (z : Nat → Int), L[j]? = some z → ∃ v, vs[j]? = some v ∧ ElemAt wr G S N v z
theorem QAt.step {wr w' : World} {G S N : Nat} {vq : Value} {L : List (Nat → Int)} {row : Option Nat} (h : QAt wr G S N vq L) (hS : G + 3 ≤ S) (hg : wr.grownBy w' row) (hr : ∀ k, row = some k → k = G + 1 ∨ k = G + 2) : QAt w' G S N vq L := by
  obtain ⟨vs, h1, h2⟩ := h
  refine ⟨vs, h1.kept hg ?_, fun j z hz => ?_⟩
  · cases hv : vq.ownBlock with
    | none => exact .inl rfl
    | some k =>
      refine .inr fun e => ?_
      have h3 := (h1.lt k hv).1
      have := hr k e.symm
      omega
  · obtain ⟨v, h3, h4⟩ := h2 j z hz
    exact ⟨v, h3, h4.step hS hg (fun k e => by have := hr k e; omega)⟩
theorem QAt.later {wr w' : World} {G S N : Nat} {vq : Value} {L : List (Nat → Int)} (h : QAt wr G S N vq L) (hS : G + 3 ≤ S) (hb : Below wr.heap.size wr w') : QAt w' G S N vq L := h.step hS (Below.grownBy hb) (fun k e => by cases e)
theorem QAt.append {wr w' : World} {G S N : Nat} {vq v' v : Value} {L : List (Nat → Int)} {vs : List Value} {q : Nat → Int} (h1 : wr.ownsRow S 38 1 vq L.length vs) (h2 : ∀ (j : Nat) (z : Nat → Int), L[j]? = some z → ∃ v, vs[j]? = some v ∧ ElemAt wr G S N v z) (hS : G + 3 ≤ S)
    (hv : ElemAt wr G S N v q) (o : Obj) (hown : w'.ownsRow S 38 1 v' (L.length + 1) (vs ++ [v])) (hg : (wr.alloc o).grownBy w' vq.ownBlock) : QAt w' G S N v' (L ++ [q]) := by
  have hlen : vs.length = L.length := by have := h1.1; omega
  have hr : ∀ k, vq.ownBlock = some k → k = G + 1 ∨ k = G + 2 ∨ (S ≤ k ∧ Typed (wr.alloc o) k 38) := fun k e => by
    obtain ⟨h3, h4⟩ := ownsRow_typed (h1.alloc o) k e
    exact .inr (.inr ⟨h3, h4⟩)
  have hal : ∀ {v z}, ElemAt wr G S N v z → ElemAt w' G S N v z := fun h => (h.step hS (World.grownBy_alloc wr o none) (fun k e => by cases e)).step hS hg hr
  refine ⟨_, by simpa using hown, fun j z hz => ?_⟩
  by_cases e : j < L.length
  · rw [List.getElem?_append_left e] at hz
    obtain ⟨u, h3, h4⟩ := h2 j z hz
    exact ⟨u, by rw [List.getElem?_append_left (by omega)]; exact h3, hal h4⟩
  · have hj : j = L.length := by
      have := (List.getElem?_eq_some_iff.1 hz).1
      simp at this; omega
    subst hj
    simp at hz; subst hz
    exact ⟨v, by rw [List.getElem?_append_right (by omega), hlen]; simp, hal hv⟩

/-- The element at a place of the queue. -/
theorem QAt.get {wr : World} {G S N : Nat} {vq : Value} {L : List (Nat → Int)} (h : QAt wr G S N vq L) {i : Nat} {z : Nat → Int} (hz : L[i]? = some z) : ∃ (aq : Addr) (capq : Nat) (a : Addr) (cap : Nat), vq = .slice (some aq) L.length capq ∧ S ≤ aq.block ∧ aq.block < wr.heap.size ∧ wr.cell? (aq.add i) = some (.slice (some a) N cap) ∧ ElemIn wr G S N a cap z := by
  obtain ⟨vs, h1, h2⟩ := h
  obtain ⟨v, h3, a, cap, rfl, h4⟩ := h2 i z hz
  have hi := (List.getElem?_eq_some_iff.1 hz).1
  have h1' := h1
  rcases h1.2 with ⟨_, h0⟩ | ⟨g, capq, cur, rfl, hb, hg, _⟩
  · omega
  · exact ⟨⟨g, 0, none⟩, capq, a, cap, rfl, hb, (Array.getElem?_eq_some_iff.1 hg).1, h1'.cells rfl i _ h3, h4⟩

/-- The first m moves of a position. -/
def Pm (l : List Nat) (z : Nat → Int) (h m : Nat) : (Nat → Int) → (Nat → Int) → Prop := fun _ b => ∃ j, j < m ∧ b = swapAt z h (l.getD j 0)
theorem FarInv.sub {qs : List (Nat × Nat)} {N : Nat} {s : Nat → Int} {L : List (Nat → Int)} {st : Nat → Int} {i : Nat} {P Q : (Nat → Int) → (Nat → Int) → Prop} (h : FarInv qs N s L st i P) (hq : ∀ a b, Q a b → P a b) : FarInv qs N s L st i Q :=
  ⟨h.pos, ⟨h.q.nd, h.q.st, h.q.z, h.q.wk, h.q.up, h.q.near, h.q.done, fun a ha b hb he => h.q.part a ha b (hq a b hb) he⟩, h.out, h.nn⟩
theorem Pm_succ {l : List Nat} {z : Nat → Int} {h m : Nat} {a b : Nat → Int} (hb : Pm l z h (m + 1) a b) : Pm l z h m a b ∨ b = swapAt z h (l.getD m 0) := by
  obtain ⟨j, hj, e⟩ := hb
  by_cases hjm : j = m
  · subst hjm; exact .inr e
  · exact .inl ⟨j, by omega, e⟩
theorem Pm_all {qs : List (Nat × Nat)} {N : Nat} (hq : ∀ q ∈ qs, q.1 < q.2 ∧ q.2 < N) {z : Nat → Int} {h : Nat} (hh : PosZ z N h) {b : Nat → Int} (hm : Mov qs N z b) : Pm (nbs qs N h) z h (nbs qs N h).length z b := by
  obtain ⟨_, h', t, h1, h2, h3, rfl⟩ := hm
  have e := h1.unique hh
  subst e
  have hmem := (nbs_mem (N := N) hq).2 ⟨h2, h3⟩
  obtain ⟨j, hj, e2⟩ := List.getElem_of_mem hmem
  exact ⟨j, hj, by rw [List.getD_eq_getElem?_getD, List.getElem?_eq_getElem hj, e2]; rfl⟩
theorem nbs_get {qs : List (Nat × Nat)} {N h m : Nat} (hq : ∀ q ∈ qs, q.1 < q.2 ∧ q.2 < N) (hm : m < (nbs qs N h).length) : (nbs qs N h).getD m 0 < N ∧ nearB qs (h : Int) (((nbs qs N h).getD m 0 : Nat) : Int) = true := by
  refine (nbs_mem (N := N) hq).1 ?_
  rw [List.getD_eq_getElem?_getD, List.getElem?_eq_getElem hm]
  exact List.getElem_mem hm

theorem drewN_below (w : World) (m : Nat) : Below w.heap.size w (w.drewN m) := ⟨rfl, rfl, rfl, Nat.le_refl _, fun _ _ => rfl⟩
theorem drew_below (w : World) : Below w.heap.size w w.drew := ⟨rfl, rfl, rfl, Nat.le_refl _, fun _ _ => rfl⟩

/-- All of it. -/
structure FS (w W2 : World) (F N : Nat) (st : Nat → Int) (M C : Nat) (vq : Value) (L : List (Nat → Int)) (wr : World) : Prop where
  fb : FB w F st M C wr
  keep : Keep w.heap.size W2 wr
  q : QAt wr w.heap.size W2.heap.size N vq L
  hS : w.heap.size + 3 ≤ W2.heap.size

theorem ElemIn.set2 {wr : World} {G S N cap : Nat} {a : Addr} {z : Nat → Int} (h : ElemIn wr G S N a cap z) (hS : G + 3 ≤ S) (j : Nat) (v : Value) : ElemIn (wr.setCell ⟨G + 2, j, none⟩ v) G S N a cap z :=
  h.step hS (grownBy_set wr ⟨G + 2, j, none⟩ v) (fun k e => by simp at e; omega)
theorem ElemIn.set1 {wr : World} {G S N cap : Nat} {a : Addr} {z : Nat → Int} (h : ElemIn wr G S N a cap z) (hS : G + 3 ≤ S) (j : Nat) (v : Value) : ElemIn (wr.setCell ⟨G + 1, j, none⟩ v) G S N a cap z :=
  h.step hS (grownBy_set wr ⟨G + 1, j, none⟩ v) (fun k e => by simp at e; omega)
theorem ElemIn.later {wr w' : World} {G S N cap : Nat} {a : Addr} {z : Nat → Int} (h : ElemIn wr G S N a cap z) (hS : G + 3 ≤ S) (hb : Below wr.heap.size wr w') : ElemIn w' G S N a cap z :=
  h.step hS (Below.grownBy hb) (fun k e => by cases e)

section
variable {w W2 wr w' : World} {F N : Nat} {st : Nat → Int} {M C : Nat} {vq : Value} {L : List (Nat → Int)}
theorem FS.later (h : FS w W2 F N st M C vq L wr) (hb : Below wr.heap.size wr w') : FS w W2 F N st M C vq L w' := ⟨h.fb.later hb, h.keep.later hb, h.q.later h.hS hb, h.hS⟩
theorem FS.setS (h : FS w W2 F N st M C vq L wr) {r : Nat} (hr : r < F) (d : Int) : FS w W2 F N (setSt st r d) M C vq L (wr.setCell ⟨w.heap.size + 1, r, none⟩ (.int .i64 d)) :=
  ⟨h.fb.setS hr d, h.keep.step (grownBy_set wr ⟨w.heap.size + 1, r, none⟩ _) (fun k e => by simp at e; omega), h.q.step h.hS (grownBy_set wr ⟨w.heap.size + 1, r, none⟩ _) (fun k e => by simp at e; omega), h.hS⟩
theorem FS.setM (h : FS w W2 F N st M C vq L wr) (d : Nat) : FS w W2 F N st d C vq L (wr.setCell ⟨w.heap.size + 2, 2, none⟩ (.int .i64 (d : Int))) :=
  ⟨h.fb.setM d, h.keep.step (grownBy_set wr ⟨w.heap.size + 2, 2, none⟩ _) (fun k e => by simp at e; omega), h.q.step h.hS (grownBy_set wr ⟨w.heap.size + 2, 2, none⟩ _) (fun k e => by simp at e; omega), h.hS⟩
theorem FS.setC (h : FS w W2 F N st M C vq L wr) (d : Nat) : FS w W2 F N st M d vq L (wr.setCell ⟨w.heap.size + 2, 3, none⟩ (.int .i64 (d : Int))) :=
  ⟨h.fb.setC d, h.keep.step (grownBy_set wr ⟨w.heap.size + 2, 3, none⟩ _) (fun k e => by simp at e; omega), h.q.step h.hS (grownBy_set wr ⟨w.heap.size + 2, 3, none⟩ _) (fun k e => by simp at e; omega), h.hS⟩
theorem FS.append (h : FS w W2 F N st M C vq L wr) {vs : List Value} {v v' : Value} {q : Nat → Int} (h1 : wr.ownsRow W2.heap.size 38 1 vq L.length vs) (h2 : ∀ (j : Nat) (z : Nat → Int), L[j]? = some z → ∃ v, vs[j]? = some v ∧ ElemAt wr w.heap.size W2.heap.size N v z)
    (hv : ElemAt wr w.heap.size W2.heap.size N v q) (o : Obj) (hown : w'.ownsRow W2.heap.size 38 1 v' (L.length + 1) (vs ++ [v])) (hg : (wr.alloc o).grownBy w' vq.ownBlock) : FS w W2 F N st M C v' (L ++ [q]) w' := by
  have ha : Below wr.heap.size wr (wr.alloc o) := (Below.refl _ _).alloc (Nat.le_refl _) _
  have hk : ∀ k, vq.ownBlock = some k → W2.heap.size ≤ k := fun k e => (h1.lt k e).1
  have hS := h.hS
  exact ⟨(h.fb.later ha).step hg (fun k e => by have := hk k e; omega), (h.keep.later ha).step hg (fun k e => .inr (.inr (hk k e))), QAt.append h1 h2 h.hS hv o hown hg, h.hS⟩
/-- The element at a place, once more in a later world. -/
theorem FS.elem (h : FS w W2 F N st M C vq L wr) {i : Nat} {z : Nat → Int} (hz : L[i]? = some z) : ∃ (aq : Addr) (capq : Nat) (a : Addr) (cap : Nat), vq = .slice (some aq) L.length capq ∧ aq.block < wr.heap.size ∧ wr.cell? (aq.add i) = some (.slice (some a) N cap) ∧ (aq.block ≠ w.heap.size + 1 ∧ aq.block ≠ w.heap.size + 2) ∧ ElemIn wr w.heap.size W2.heap.size N a cap z := by
  obtain ⟨aq, capq, a, cap, h1, h2, h3, h4, h5⟩ := h.q.get hz
  have := h.hS
  exact ⟨aq, capq, a, cap, h1, h3, h4, ⟨by omega, by omega⟩, h5⟩
theorem FS.c70 (h : FS w W2 F N st M C vq L wr) : wr.cell? ⟨w.heap.size + 2, 0, none⟩ = some (.slice (some ⟨w.heap.size + 1, 0, none⟩) F F) := (h.fb.out 0 (by omega)).1
end
end Go.Eng

namespace Go.Eng
open Go.RowKit Go.Proofs Go.Proofs.YtjcmalmcijpnnaaDoor

theorem t38_info : (Tryd.prog.info? 38).map (fun i => (i.zero, i.size, i.bytes)) = some (some (.slice none 0 0), 1, 24) := by kernel_rfl
theorem under94 : Tryd.prog.underlying 94 = some (.slice 38) := by kernel_rfl

theorem wpListIn_make_run {F : Fence} {n : Nat} {P : Program} (w : World) {ops : Array Oper} {rest : List Oper} {o : Oper} {a : CAct} {Q : Exit → CAct → World → Prop}
    (hg : o.guard = none) (l c : Operand) (t : TypeId) (hop : o.op = Op.makeSlice t l c) {x y : Value} (hl : a.eval l = x) (hc : a.eval c = y) {v' : Value} {w' : World} (hrun : (Instr.makeSlice t x y).run P w = .ok v' w')
    (hK : wpListIn F n P ops Q rest (a.put o.dst v') w') : wpListIn F n P ops Q (o :: rest) a w := by
  refine wpListIn_plain hg fun K hK' => ?_
  unfold Oper.wpIn
  refine ⟨by simp [Oper.about, hop], ?_⟩
  rw [Oper.semAt_plain F _ _ (by rw [hop]; intro c hc'; cases hc')]
  simp [execOp, hop, hl, hc, hrun, Result.andThen]
  exact hK' _ _ hK
theorem made_run (w : World) (F : Nat) (hF : F ≤ 1000000000) : (Instr.makeSlice 38 (.int .i64 (F : Int)) (.int .i64 (F : Int))).run Tryd.prog w = .ok (.slice (some ⟨w.heap.size, 0, none⟩) F F) (w.alloc (.cells (madeCells #[.int .i64 0] F) 3)) := by
  have h := run_make (P := Tryd.prog) w 38 3 Tryd.t3 (.int .i64 0) Go.Eng.u38 t3_info t3_zero .i64 .i64 (F : Int) (F : Int) (by omega) (by omega) (by rw [t3_bytes]; omega) (by omega)
  rw [t3_size] at h
  simpa [Value.cells] using h

/-- What the search answers. -/
def FarSaid (w : World) (qs : List (Nat × Nat)) (N : Nat) (s : Nat → Int) (e : Ending) (w' : World) : Prop :=
  ∃ gs cnt most last st, e = .returned (.agg #[.slice (some ⟨gs, 0, none⟩) (prodF N N) (prodF N N), .int .i64 ((cnt : Nat) : Int), .int .i64 ((most : Nat) : Int), .int .i64 ((last : Nat) : Int)]) ∧ w.heap.size ≤ gs ∧ ArrAt w' gs (prodF N N) (fun i => .int .i64 (st i)) ∧ FarEnd qs N s st cnt most last

set_option maxRecDepth 100000 in
set_option maxHeartbeats 16000000 in
/-- **'Farther' of the reference.** -/
theorem farther_calls (w : World) (N : Nat) (hN : 2 ≤ N ∧ N ≤ 9) (ox : Option Addr) (cx : Nat) (qs : List (Nat × Nat)) (hed : EdgesAt w ox qs) (hql : qs.length ≤ 1000) (hq : ∀ q ∈ qs, q.1 < q.2 ∧ q.2 < N)
    (a0 : Addr) (cap0 : Nat) (ha0 : a0.block < w.heap.size) (hcap0 : N ≤ cap0) (s : Nat → Int) (hs : Pos N s) (hz0 : ∀ i, i < N → w.cell? (a0.add i) = some (.int .i64 (s i))) :
    CallsIn Fence.wide 0 Tryd.prog 21 #[.int .i64 (N : Int), .slice ox qs.length cx, .slice (some a0) N cap0] w fun e w' => FarSaid w qs N s e w' ∧ Below w.heap.size w w' := by
  have HED := Hid.intro hed
  have HQ := Hid.intro hq
  have HS := Hid.intro hs
  have HZ0 := Hid.intro hz0
  have HF : Hid (∀ w', CallsIn Fence.wide 0 Tryd.prog 42 #[.int .i64 (N : Int)] w' fun e w'' => e = .returned (.int .i64 ((prodF N N : Nat) : Int)) ∧ w' = w'') := fun w' => factorial_calls w' N hN
  have hFb := prodF_le hN.2
  have HFP : Hid (∀ z, rankF z N N < prodF N N) := fun z => rankF_lt (Nat.le_refl N)
  obtain ⟨F, hF⟩ : ∃ F, prodF N N = F := ⟨_, rfl⟩
  have HFE := Hid.intro hF
  rw [hF] at HF hFb HFP
  clear hed hq hs hz0 hF
  refine callsIn_of_wp Tryd.func21 rfl trivial ?_ rfl
  simp only [Tryd.ntmps21, List.size_toArray, List.length_cons, List.length_nil, Nat.reduceAdd, Nat.reduceSub, Array.replicate_succ, Array.replicate_zero, List.push_toArray, List.append_toArray, List.nil_append, List.cons_append]
  gi_wp2_with (first
    | (gi_at_call 42; refine (HF.out _).mono ?_; rintro e w1 ⟨rfl, rfl⟩)
    | (gi_at_make; refine stop ?_))
  unfold Stop
  refine wpListIn_make_run _ rfl _ _ _ rfl rfl rfl (made_run _ F (by omega)) ?_
  have hz6 : ArrAt (w.alloc (.cells #[.slice none 0 0, .int .i64 0, .int .i64 0, .int .i64 0] 42)) w.heap.size 4 farZero := ArrAt.new w _ _ fun i hi => by
    have : i = 0 ∨ i = 1 ∨ i = 2 ∨ i = 3 := by omega
    rcases this with rfl | rfl | rfl | rfl <;> rfl
  obtain ⟨W4, hW4⟩ : ∃ W4, W4 = ((w.alloc (.cells #[.slice none 0 0, .int .i64 0, .int .i64 0, .int .i64 0] 42)).alloc (.cells (madeCells #[.int .i64 0] F) 3)) := ⟨_, rfl⟩
  have hA4 : ArrAt W4 (w.heap.size + 1) F fun _ => .int .i64 0 := by
    rw [hW4]
    have e : (w.alloc (.cells #[.slice none 0 0, .int .i64 0, .int .i64 0, .int .i64 0] 42)).heap.size = w.heap.size + 1 := by simp
    rw [← e]
    exact ArrAt.new _ _ _ fun i hi => by simp [madeCells, hi, Nat.mod_one]
  have hB4 : Below w.heap.size w W4 := by rw [hW4]; exact ((Below.refl _ w).alloc (Nat.le_refl _) _).alloc (by simp) _
  have hR4 : ArrAt W4 w.heap.size 4 farZero := by rw [hW4]; exact hz6.alloc (by simp) _
  have hs4 : W4.heap.size = w.heap.size + 2 := by rw [hW4]; simp
  have HA4 := Hid.intro hA4
  have HB4 := Hid.intro hB4
  have HR4 := Hid.intro hR4
  rw [← hW4]
  clear hz6 hA4 hB4 hR4 hW4 HF
  simp only [World.size_alloc]
  gi_wp2
  obtain ⟨W5, hW5⟩ : ∃ W5, W5 = W4.alloc (.cells #[.slice (some ⟨w.heap.size + 1, 0, none⟩) F F, .int .i64 0, .int .i64 0, .int .i64 0] 42) := ⟨_, rfl⟩
  rw [← hW5]
  have HFB5 : Hid (FB w F (fillSt 0) 0 0 W5) := by
    rw [hW5]
    refine ⟨HB4.out.alloc (by omega) _, by simp [hs4], HR4.out.alloc (by omega) _, HA4.out.alloc (by omega) _, ?_⟩
    have e := ArrAt.new W4 #[.slice (some ⟨w.heap.size + 1, 0, none⟩) F F, .int .i64 0, .int .i64 0, .int .i64 0] 42 (n := 4) (f := farCell (w.heap.size + 1) F 0 0 0) (fun i hi => by
      have : i = 0 ∨ i = 1 ∨ i = 2 ∨ i = 3 := by omega
      rcases this with rfl | rfl | rfl | rfl <;> rfl)
    rw [hs4] at e
    exact e
  clear hW5 HA4 HB4 HR4 hs4
  gi_loopw [8] (fun i wr => ∃ k, k ≤ F ∧ i = .int .i64 (k : Int) ∧ Hid (FB w F (fillSt k) 0 0 wr)) (fun i _ => F - (intOf i).toNat)
  case atStart => exact ⟨0, by omega, rfl, HFB5.out⟩
  case round =>
    obtain ⟨k, hk, rfl, HFB⟩ := hrel
    have c70 : wr.cell? ⟨w.heap.size + 2, 0, none⟩ = some (.slice (some ⟨w.heap.size + 1, 0, none⟩) F F) := (HFB.out.out 0 (by omega)).1
    by_cases hlt : k < F
    · have c1 : wr.cell? ⟨w.heap.size + 1, k, none⟩ = some (.int .i64 (fillSt k k)) := (HFB.out.steps k hlt).1
      have f1 := (HFB.out.steps k hlt).2
      obtain ⟨x, hx⟩ : ∃ x, fillSt k k = x := ⟨_, rfl⟩
      rw [hx] at c1
      clear hx
      gi_wp2
      refine ⟨⟨k + 1, by omega, by go_num, ?_⟩, by simp [intOf]; omega⟩
      refine Hid.intro ((HFB.out.setS hlt (-1)).congr fun j _ => ?_)
      unfold setSt fillSt
      by_cases e : j = k
      · rw [if_pos e, if_pos (by omega)]
      · rw [if_neg e]
        by_cases e2 : j < k
        · rw [if_pos e2, if_pos (by omega)]
        · rw [if_neg e2, if_neg (by omega)]
    · have hkF : F = k := by omega
      subst hkF
      have HF1 : Hid (FB w F (fun _ => -1) 0 0 wr) := HFB.out.congr fun j hj => by unfold fillSt; rw [if_pos (by omega)]
      clear HFB HFB5
      gi_wp2
      gi_loopw [9, 10] (fun vn i wr => ∃ k, k ≤ N ∧ i = .int .i64 (k : Int) ∧ Hid (FB w F (fun _ => -1) 0 0 wr) ∧ Hid (NearAt qs N wr (w.heap.size + 3) vn k)) (fun _ i _ => N - (intOf i).toNat)
      case atStart => exact ⟨0, by omega, rfl, HF1.out, ⟨[], World.ownsRow_nil _ _ _ _, fun j hj => absurd hj (by omega)⟩⟩
      case round =>
        obtain ⟨k, hk, rfl, HF1, HNe⟩ := hrel
        by_cases hlt2 : k < N
        · obtain ⟨B3, hB3⟩ : ∃ B3, B3 = wr.heap.size := ⟨_, rfl⟩
          have HB3 := Hid.intro hB3
          clear hB3
          gi_wp2
          gi_loopw [11, 12] (fun v j wj => ∃ m, m ≤ N ∧ j = .int .i64 (m : Int) ∧ Hid (NumsAt wj B3 v ((nbsP qs k m).map fun t : Nat => (t : Int))) ∧ Hid ((nbsP qs k m).length ≤ m) ∧ Hid (Below wr.heap.size wr wj)) (fun _ j _ => N - (intOf j).toNat)
          case atStart => exact ⟨0, by omega, rfl, World.ownsRow_nil _ _ _ _, Hid.intro (by simp [nbsP]), Below.refl _ _⟩
          case round =>
            obtain ⟨m, hm, rfl, HN, HNL, HBj⟩ := hrel
            by_cases hlt3 : m < N
            · by_cases hkm : k = m
              · subst hkm
                have HX : Hid (nbsP qs k (k + 1) = nbsP qs k k) := Hid.intro (by rw [nbsP_succ]; simp)
                gi_wp2
                exact ⟨⟨k + 1, by omega, by go_num, by rw [HX.out]; exact HN.out, by rw [HX.out]; exact Nat.le_succ_of_le HNL.out, HBj.out⟩, by simp [intOf]; omega⟩
              · have hne : ¬ (k : Int) = (m : Int) := by omega
                have hnb : ((k : Int) == (m : Int)) = false := by simp; omega
                have H29 : Hid (CallsIn Fence.wide 0 Tryd.prog 29 #[.slice ox qs.length cx, .int .i64 (k : Int), .int .i64 (m : Int)] wr fun e w' => e = .returned (.bool (nearB qs k m)) ∧ wr = w') :=
                  near_calls wr ox cx qs (HED.out.below (HF1.out.below.trans (HBj.out.mono HF1.out.below.size))) hql k m
                cases hb : nearB qs k m with
                | true =>
                  have HX : Hid (nbsP qs k (m + 1) = nbsP qs k m ++ [m]) := Hid.intro (by rw [nbsP_succ, hb]; simp [hkm])
                  rw [hb] at H29
                  gi_wp2_with (first
                    | (gi_at_call 29; refine H29.out.mono ?_; rintro e w9 ⟨rfl, rfl⟩)
                    | (gi_at_builtin; refine stop ?_))
                  unfold Stop
                  have hk2 : ∀ k', u11.ownBlock = some k' → B3 ≤ k' ∧ k' < wr.heap.size := World.ownsRow.lt HN.out
                  have hnl := HNL.out
                  refine wpListIn_append_own _ rfl _ _ 38 rfl B3 3 Tryd.t3 _ 1 8 Go.Eng.u38 t3_info t3_zero t3_size t3_bytes rfl (by decide) _ _ _ rfl (World.ownsRow.alloc HN.out _) ⟨wr.heap.size, 0, none⟩ 1 1 [.int .i64 (m : Int)] rfl rfl (num_new _ _ _) (fun u hu => by simp at hu; subst hu; rfl) (by unfold maxLen; simp; omega) (by simp; omega) (by have := HBj.out.size; have := HB3.out; simp; omega) ?_
                  intro v2 wn hown2 hgrow2 _
                  have HN2 : NumsAt wn B3 v2 ((nbsP qs k (m + 1)).map fun t : Nat => (t : Int)) := by
                    rw [HX.out, List.map_append]
                    unfold NumsAt
                    rw [List.length_append, List.map_append]
                    exact hown2
                  have HNB := Hid.intro ((HBj.out.alloc HBj.out.size _).grown hgrow2 (by have := HBj.out.size; simp; omega) (fun k' h => HB3.out ▸ (hk2 k' h).1))
                  have HN2 := Hid.intro HN2
                  clear hown2 hgrow2 hk2
                  gi_wp2
                  exact ⟨⟨m + 1, by omega, by go_num, HN2, by rw [HX.out]; exact Hid.intro (by simp; omega), HNB⟩, by simp [intOf]; omega⟩
                | false =>
                  have HX : Hid (nbsP qs k (m + 1) = nbsP qs k m) := Hid.intro (by rw [nbsP_succ, hb]; simp)
                  rw [hb] at H29
                  gi_wp2_with (gi_at_call 29; refine H29.out.mono ?_; rintro e w9 ⟨rfl, rfl⟩)
                  exact ⟨⟨m + 1, by omega, by go_num, by rw [HX.out]; exact HN.out, by rw [HX.out]; exact Nat.le_succ_of_le HNL.out, HBj.out⟩, by simp [intOf]; omega⟩
            · have hmN : N = m := by omega
              subst hmN
              obtain ⟨vs, h1, h2⟩ := HNe.out.later HBj.out
              have HV1 := Hid.intro h1
              have HV2 := Hid.intro h2
              have HFj := Hid.intro (HF1.out.later HBj.out)
              clear h1 h2
              obtain ⟨o11, c11, rfl, _⟩ := HN.out.ints.cellsAt
              obtain ⟨n11, hn11⟩ : ∃ n11, ((nbsP qs k N).map fun t : Nat => (t : Int)).length = n11 := ⟨_, rfl⟩
              rw [hn11] at HN ⊢
              clear hn11
              gi_wp2_with (gi_at_builtin; refine stop ?_)
              unfold Stop
              obtain ⟨i38, hi38, hz38, hs38, hb38⟩ := info_parts t38_info
              have hsz := HFj.out.size
              refine wpListIn_append_own _ rfl _ _ 94 rfl (w.heap.size + 3) 38 i38 _ 1 24 under94 hi38 hz38 hs38 hb38 rfl (by decide) _ _ _ rfl (World.ownsRow.alloc HV1.out _) ⟨wr.heap.size, 0, none⟩ 1 1 [.slice o11 n11 c11] rfl rfl (fun j u hu => by
                have : j = 0 := by have := (List.getElem?_eq_some_iff.1 hu).1; simp at this; omega
                subst this
                simp at hu; subst hu
                exact World.cell?_alloc_new _ _ _ _) (fun u hu => by simp at hu; subst hu; rfl) (by unfold maxLen; omega) (by omega) (by simp; omega) ?_
              intro v2 wn hown2 hgrow2 _
              have HNN : Hid (NearAt qs N wn (w.heap.size + 3) v2 (k + 1)) := NearAt.append HV1.out HV2.out (nums_mono HN.out (by have h3 := HB3.out; have h4 := HF1.out.size; omega)) _ hown2 hgrow2
              have HFn : Hid (FB w F (fun _ => -1) 0 0 wn) := (HFj.out.later ((Below.refl _ _).alloc (Nat.le_refl _) _)).step hgrow2 (fun k' h => (World.ownsRow.lt HV1.out k' h).1)
              clear hown2 hgrow2
              gi_wp2
              exact ⟨⟨k + 1, by omega, by go_num, HFn, HNN⟩, by simp [intOf]; omega⟩
        · have hkN : N = k := by omega
          subst hkN
          obtain ⟨an, capn, rfl, hanS, hanl, hnc⟩ := HNe.out.cells (by omega)
          have HNC := Hid.intro hnc
          obtain ⟨W2, hW2⟩ : ∃ W2, W2 = wr := ⟨_, rfl⟩
          subst hW2
          have HS3 := HF1.out.size
          have hBW := HF1.out.below
          have HBW := Hid.intro hBW
          obtain ⟨R, hR⟩ : ∃ R, rankF s N N = R := ⟨_, rfl⟩
          have hRF : R < F := by rw [← hR]; exact HFP.out s
          have HR : Hid (∀ m, CallsIn Fence.wide 0 Tryd.prog 54 #[.slice (some a0) N cap0] (W2.drewN m) fun e w' => e = .returned (.int .i64 (R : Int)) ∧ ∃ m', w' = (W2.drewN m).drewN m') := fun m => by
            rw [← hR]
            exact rank_calls _ a0 N cap0 hN.2 s (fun i hi => (HBW.out.cell (p := a0.add i) (by rw [add_block]; exact ha0)).trans (HZ0.out i hi))
          have HRE := Hid.intro hR
          have c70 : W2.cell? ⟨w.heap.size + 2, 0, none⟩ = some (.slice (some ⟨w.heap.size + 1, 0, none⟩) F F) := (HF1.out.out 0 (by omega)).1
          have c1 : W2.cell? ⟨w.heap.size + 1, R, none⟩ = some (.int .i64 (-1)) := (HF1.out.steps R hRF).1
          have f1 := (HF1.out.steps R hRF).2
          clear hnc hBW hR HNe
          gi_wp2
          gi_region_with (gi_at_call 54; refine (show CallsIn _ _ _ _ _ W2.drew _ from HR.out 1).mono ?_; rintro e w3 ⟨rfl, m3, rfl⟩)
          --DEV1
          all_goals
            have HFS0 : Hid (FS w W2 F N (setSt (fun _ => -1) R 0) 0 0 (.slice (some ⟨W2.heap.size, 0, none⟩) 1 1) [s] (((W2.drewN (1 + m3)).setCell ⟨w.heap.size + 1, R, none⟩ (.int .i64 0)).alloc (.cells #[.slice (some a0) N cap0] 38))) := by
              have hb : Below W2.heap.size W2 (W2.drewN (1 + m3)) := drewN_below _ _
              have hal : Below W2.heap.size ((W2.drewN (1 + m3)).setCell ⟨w.heap.size + 1, R, none⟩ (.int .i64 0)) (((W2.drewN (1 + m3)).setCell ⟨w.heap.size + 1, R, none⟩ (.int .i64 0)).alloc (.cells #[.slice (some a0) N cap0] 38)) := (Below.refl _ _).alloc (by simp [World.setCell, World.drewN]) _
              have hsz : ((W2.drewN (1 + m3)).setCell ⟨w.heap.size + 1, R, none⟩ (.int .i64 0)).heap.size = W2.heap.size := by simp [World.setCell, World.drewN]
              have hal' := hal.mono (Nat.le_of_eq hsz)
              rw [← hsz] at hal
              have hst := grownBy_set (W2.drewN (1 + m3)) ⟨w.heap.size + 1, R, none⟩ (.int .i64 0)
              have hnew := World.alloc_heap_new ((W2.drewN (1 + m3)).setCell ⟨w.heap.size + 1, R, none⟩ (.int .i64 0)) (.cells #[.slice (some a0) N cap0] 38)
              rw [hsz] at hnew
              refine ⟨((HF1.out.later hb).setS hRF 0).later hal, (((Keep.refl _ _).later hb).step hst (fun k e => by simp at e; omega)).later hal, ⟨[.slice (some a0) N cap0], ⟨by simp, .inr ⟨W2.heap.size, 1, #[.slice (some a0) N cap0], rfl, Nat.le_refl _, hnew, Nat.le_refl _, by unfold maxLen; omega, rfl, rfl⟩⟩, fun j z hz => ?_⟩, HS3⟩
              have hj : j = 0 := by have := (List.getElem?_eq_some_iff.1 hz).1; simp at this; omega
              subst hj
              simp at hz; subst hz
              refine ⟨_, rfl, a0, cap0, rfl, hcap0, ?_, .inl ha0, fun i hi => ?_⟩
              · have h1 := HBW.out.size
                simp [World.setCell, World.drewN]; omega
              · have h1 := HBW.out.size
                refine (hal.cell (p := a0.add i) (by rw [add_block, hsz]; omega)).trans ?_
                have h2 := (HBW.out.cell (p := a0.add i) (by rw [add_block]; exact ha0)).trans (HZ0.out i hi)
                rw [World.cell?_of_block (w := W2.drewN (1 + m3)) (a := a0.add i) (Below.heap_setCell _ _ _ _ (by rw [add_block]; show a0.block ≠ w.heap.size + 1; omega))]
                exact h2
            gi_wp2
            gi_loopw [13, 14] (fun vq i wr => ∃ (k : Nat) (L : List (Nat → Int)) (st : Nat → Int) (M C : Nat), k ≤ L.length ∧ i = .int .i64 (k : Int) ∧ Hid (FS w W2 F N st M C vq L wr) ∧ Hid (FarInv qs N s L st k fun _ _ => False) ∧ Hid (FarTop N L st k M C)) (fun _ i _ => F - (intOf i).toNat)
            case atStart => exact ⟨0, [s], setSt (fun _ => -1) R 0, 0, 0, by omega, rfl, HFS0.out, (by have h := FarInv.start (qs := qs) HS.out; rw [HRE.out] at h; exact h), FarTop.start _ _ _⟩
            case round =>
              obtain ⟨k, L, st, M, C, hk, rfl, HFS, HFI, HFT⟩ := hrel
              by_cases hlt4 : k < L.length
              · obtain ⟨z, hz⟩ : ∃ z, L[k]? = some z := ⟨L[k], List.getElem?_eq_getElem hlt4⟩
                have hpz := HFI.out.pos z (List.mem_of_getElem? hz)
                have hLF : L.length ≤ F := by have := pos_count HFI.out.q.nd HFI.out.pos; rw [HFE.out] at this; exact this
                obtain ⟨h, hph⟩ := hpz.ex_hole (by omega) (by omega)
                have hhN := hph.lt
                have hnn := HFI.out.nn z (List.mem_of_getElem? hz)
                obtain ⟨R1, hR1⟩ : ∃ R1, rankF z N N = R1 := ⟨_, rfl⟩
                have hR1F : R1 < F := by rw [← hR1]; exact HFP.out z
                rw [hR1] at hnn
                obtain ⟨D, hD⟩ : ∃ D : Nat, st R1 = (D : Int) := ⟨(st R1).toNat, by omega⟩
                have hDL : D < L.length := by omega
                have htop := HFT.out.next HFI.out hz
                have hdl : dl st N z = D := by unfold dl; rw [hR1, hD]; rfl
                rw [hdl] at htop
                have hCk : C ≤ k := by
                  have h1 := HFT.out.cnt
                  have h2 := List.length_filter_le (fun x => decide (dl st N x = M)) (L.take k)
                  simp at h2; omega
                obtain ⟨aq, capq, a, cap, rfl, haq, hcq, haq2, hel⟩ := HFS.out.elem hz
                have c70 := HFS.out.c70
                have c1 : wr.cell? ⟨w.heap.size + 1, R1, none⟩ = some (.int .i64 (D : Int)) := by rw [← hD]; exact (HFS.out.fb.steps R1 hR1F).1
                have c72 : wr.cell? ⟨w.heap.size + 2, 2, none⟩ = some (.int .i64 (M : Int)) := (HFS.out.fb.out 2 (by omega)).1
                have c73 : wr.cell? ⟨w.heap.size + 2, 3, none⟩ = some (.int .i64 (C : Int)) := (HFS.out.fb.out 3 (by omega)).1
                have f72 := (HFS.out.fb.out 2 (by omega)).2
                have f73 := (HFS.out.fb.out 3 (by omega)).2
                have HEL := Hid.intro hel
                have HPZ := Hid.intro hpz
                have HPH := Hid.intro hph
                have HLZ := Hid.intro hz
                have HRZ := Hid.intro (And.intro hR1 hD)
                have HR1 : Hid (∀ m, CallsIn Fence.wide 0 Tryd.prog 54 #[.slice (some a) N cap] (wr.drewN m) fun e w' => e = .returned (.int .i64 (R1 : Int)) ∧ ∃ m', w' = (wr.drewN m).drewN m') := fun m => by
                  rw [← hR1]; exact rank_calls _ a N cap hN.2 z (fun i hi => HEL.out.cells i hi)
                have HHo : Hid (∀ w', ElemIn w' w.heap.size W2.heap.size N a cap z → CallsIn Fence.wide 0 Tryd.prog 30 #[.slice (some a) N cap] w' fun e w'' => e = .returned (.int .i64 (h : Int)) ∧ w' = w'') := fun w' he => refHole_calls w' a N cap (by omega) z he.cells h HPH.out.lt HPH.out.zero HPH.out.hole.first
                obtain ⟨onb, cnb, hcn, hnb⟩ := HNC.out h hhN
                have cn := HFS.out.keep.cell (p := an.add h) (by rw [add_block]; exact hanl) (by rw [add_block]; omega) (by rw [add_block]; omega) hcn
                have HNB := Hid.intro hnb
                obtain ⟨nl, hnl⟩ : ∃ nl, (nbs qs N h).length = nl := ⟨_, rfl⟩
                have hnl9 : nl ≤ 9 := by
                  have h1 := List.length_filter_le (fun k => decide (h ≠ k) && nearB qs (h : Int) (k : Int)) (List.range N)
                  have h2 : (nbs qs N h).length ≤ N := by simpa [nbs] using h1
                  omega
                rw [hnl] at cn
                have HNL := Hid.intro hnl
                have sq2 := fun (W : World) (j : Nat) (v : Value) => far_cell (p := aq.add k) (g := w.heap.size + 2) (by rw [add_block]; exact haq2.2) W j v
                have sn2 := fun (W : World) (j : Nat) (v : Value) => far_cell (p := an.add h) (g := w.heap.size + 2) (by rw [add_block]; omega) W j v
                clear hpz hph hz hnn hR1 hD hdl hel hcn hnb hnl haq2
                rcases Nat.lt_or_ge M D with hDM | hDM
                case' inl =>
                  have HT7 := Hid.intro (htop.1 hDM)
                  clear htop
                  gi_wp2
                  gi_quiet ((gi_at_call 54; refine CallsIn.quiet_of (HR1.out _)))
                  gi_wp2_with (gi_at_call 30; refine (HHo.out _ ((((HEL.out.later HS3 (drewN_below _ _)).set2 HS3 _ _).set2 HS3 _ _).set2 HS3 _ _)).mono ?_; rintro e w9 ⟨rfl, rfl⟩)
                  obtain ⟨W7, hW7⟩ : ∃ W7, W7 = (((wr.drewN nq).setCell ⟨w.heap.size + 2, 2, none⟩ (.int .i64 (D : Int))).setCell ⟨w.heap.size + 2, 3, none⟩ (.int .i64 0)).setCell ⟨w.heap.size + 2, 3, none⟩ (.int .i64 1) := ⟨_, rfl⟩
                  have HFT7 : Hid (∃ M7 C7, FS w W2 F N st M7 C7 (.slice (some aq) L.length capq) L W7 ∧ FarTop N L st (k + 1) M7 C7) :=
                    ⟨D, 1, by rw [hW7]; exact (((HFS.out.later (drewN_below _ _)).setM D).setC 0).setC 1, HT7.out⟩
                  rw [← hW7]
                  clear hW7 HT7
                case' inr =>
                  have hnlt : ¬ M < D := by omega
                  have HT7 := Hid.intro (htop.2 hnlt)
                  clear htop
                  gi_wp2
                  gi_quiet ((gi_at_call 54; refine CallsIn.quiet_of (HR1.out _)))
                  gi_wp2_with (gi_at_call 30; refine (HHo.out _ ((HEL.out.later HS3 (drewN_below _ _)).set2 HS3 _ _)).mono ?_; rintro e w9 ⟨rfl, rfl⟩)
                  obtain ⟨W7, hW7⟩ : ∃ W7, W7 = (wr.drewN nq).setCell ⟨w.heap.size + 2, 3, none⟩ (.int .i64 ((C : Int) + 1)) := ⟨_, rfl⟩
                  have HFT7 : Hid (∃ M7 C7, FS w W2 F N st M7 C7 (.slice (some aq) L.length capq) L W7 ∧ FarTop N L st (k + 1) M7 C7) :=
                    ⟨M, C + 1, by rw [hW7]; exact (HFS.out.later (drewN_below _ _)).setC (C + 1), HT7.out.2⟩
                  rw [← hW7]
                  clear hW7 HT7 hnlt
                --DEV2
                all_goals
                  obtain ⟨M7, C7, hfs7, hft7⟩ := HFT7.out
                  have HFS7 := Hid.intro hfs7
                  have HFT8 := Hid.intro hft7
                  clear hfs7 hft7 HFT7 c70 c1 c72 c73 f72 f73 HEL HR1 HHo cn sq2 sn2 hcq haq HFS HFT
                  gi_loopw [13, 17] (fun vq j wj => ∃ (m : Nat) (L' : List (Nat → Int)) (st' : Nat → Int), m ≤ nl ∧ j = .int .i64 (m : Int) ∧ Hid (FS w W2 F N st' M7 C7 vq L' wj) ∧ Hid (FarInv qs N s L' st' k (Pm (nbs qs N h) z h m)) ∧ Hid (FarTop N L' st' (k + 1) M7 C7) ∧ Hid (L'[k]? = some z) ∧ Hid (st' R1 = (D : Int))) (fun _ j _ => nl - (intOf j).toNat)
                  case atStart => exact ⟨0, L, st, by omega, rfl, HFS7.out, HFI.out.sub (fun a b ⟨j, hj, _⟩ => absurd hj (by omega)), HFT8.out, HLZ.out, HRZ.out.2⟩
                  case round =>
                    obtain ⟨m, L', st', hm, rfl, HFS, HFJ, HFT, HLk, HSD⟩ := hrel
                    clear HFS7 HFT8
                    obtain ⟨aq', capq', a', cap', rfl, haq', hcq', _, hel'⟩ := HFS.out.elem HLk.out
                    by_cases hlm : m < nl
                    · obtain ⟨T, hT⟩ : ∃ T, (nbs qs N h).getD m 0 = T := ⟨_, rfl⟩
                      have hTg := nbs_get HQ.out (show m < (nbs qs N h).length by rw [HNL.out]; exact hlm)
                      rw [hT] at hTg
                      have hTN := hTg.1
                      obtain ⟨q, hq⟩ : ∃ q, swapAt z h T = q := ⟨_, rfl⟩
                      have HMov : Hid (Mov qs N z q) := ⟨HPZ.out, h, T, HPH.out, hTg.1, hTg.2, hq.symm⟩
                      have HPM : Hid (∀ b, Pm (nbs qs N h) z h (m + 1) z b → Mov qs N z b → Pm (nbs qs N h) z h m z b ∨ b = q) := fun b hb _ => by
                        have := Pm_succ hb; rw [hT, hq] at this; exact this
                      obtain ⟨R2, hR2⟩ : ∃ R2, rankF q N N = R2 := ⟨_, rfl⟩
                      have hR2F : R2 < F := by rw [← hR2]; exact HFP.out q
                      have HR2 := Hid.intro hR2
                      obtain ⟨b, rfl, hbS, hbl, hbc⟩ := HNB.out (by rw [HNL.out]; omega)
                      have cb : wr.cell? (b.add m) = some (.int .i64 (T : Int)) := by
                        have h1 := hbc m (by rw [HNL.out]; exact hlm)
                        rw [hT] at h1
                        exact HFS.out.keep.cell (p := b.add m) (by rw [add_block]; exact hbl) (by rw [add_block]; omega) (by rw [add_block]; omega) h1
                      have HMv : Hid (CallsIn Fence.wide 0 Tryd.prog 31 #[.slice (some a') N cap', .int .i64 (T : Int)] wr.drew fun e w' => ∃ g c, e = .returned (.slice (some ⟨g, 0, none⟩) N c) ∧ wr.heap.size ≤ g ∧ N ≤ c ∧ ArrAt w' g N (fun i => .int .i64 (q i)) ∧ Typed w' g 3 ∧ Below wr.heap.size wr.drew w') := by
                        rw [← hq]
                        exact refMoved_typed wr.drew a' N cap' hN hel'.lt z hel'.cells h HPH.out.hole T hTN
                      have HR8 : Hid (∀ (W : World) (g c : Nat), ArrAt W g N (fun i => .int .i64 (q i)) → CallsIn Fence.wide 0 Tryd.prog 54 #[.slice (some ⟨g, 0, none⟩) N c] W fun e w' => e = .returned (.int .i64 (R2 : Int)) ∧ ∃ m, w' = W.drewN m) := fun W g c hA => by
                        rw [← hR2]
                        exact rank_calls W ⟨g, 0, none⟩ N c hN.2 q (fun i hi => by rw [Addr.add_lit, Nat.zero_add]; exact (hA i hi).1)
                      have hposL : L'.length ≤ F := by have := pos_count HFJ.out.q.nd HFJ.out.pos; rw [HFE.out] at this; exact this
                      obtain ⟨X, hX⟩ : ∃ X, st' R2 = X := ⟨_, rfl⟩
                      have HX := Hid.intro hX
                      have hkL : k < L'.length := (List.getElem?_eq_some_iff.1 HLk.out).1
                      have hHS3 := HFS.out.hS
                      have hWle := HFS.out.keep.1
                      clear hTg hT hq hR2 hbc hX hel'
                      by_cases hmem : q ∈ L'
                      · have hX0 : ¬ X < 0 := by
                          have := HFJ.out.nn q hmem
                          rw [HR2.out, HX.out] at this
                          omega
                        have HMEM := Hid.intro hmem
                        clear hmem
                        gi_wp2
                        gi_region_with (gi_at_call 31; refine HMv.out.mono ?_; rintro e w8 ⟨gm, cm, rfl, hm8⟩; have HM8 := Hid.intro hm8; clear hm8)
                        all_goals
                          have HFS8 : Hid (FS w W2 F N st' M7 C7 (.slice (some aq') L'.length capq') L' w8) := (HFS.out.later (drew_below wr)).later HM8.out.2.2.2.2
                          have c78 := HFS8.out.c70
                          have c18 : w8.cell? ⟨w.heap.size + 1, R2, none⟩ = some (.int .i64 X) := by rw [← HX.out]; exact (HFS8.out.fb.steps R2 hR2F).1
                          gi_wp2_with (gi_at_call 54; refine (HR8.out _ gm cm HM8.out.2.2.1).mono ?_; rintro e w10 ⟨rfl, m10, rfl⟩)
                          exact ⟨⟨m + 1, L', st', by omega, by go_num, HFS8.out.later (drewN_below _ _), HFJ.out.old HLk.out HMEM.out HPM.out, HFT.out, HLk.out, HSD.out⟩, by simp [intOf]; omega⟩
                      · have hXe : X = -1 := by
                          have := HFJ.out.out q HMov.out.pos hmem
                          rw [HR2.out, HX.out] at this
                          exact this
                        subst hXe
                        have HMEM := Hid.intro hmem
                        have hDF : D < F := by omega
                        clear hmem
                        gi_wp2
                        gi_region_with (gi_at_call 31; refine HMv.out.mono ?_; rintro e w8 ⟨gm, cm, rfl, hm8⟩; have HM8 := Hid.intro hm8; clear hm8)
                        all_goals
                          have HFS8 : Hid (FS w W2 F N st' M7 C7 (.slice (some aq') L'.length capq') L' w8) := (HFS.out.later (drew_below wr)).later HM8.out.2.2.2.2
                          have c78 := HFS8.out.c70
                          have c18 : w8.cell? ⟨w.heap.size + 1, R2, none⟩ = some (.int .i64 (-1)) := by rw [← HX.out]; exact (HFS8.out.fb.steps R2 hR2F).1
                          have f18 := (HFS8.out.fb.steps R2 hR2F).2
                          gi_wp2_with (first
                            | (gi_at_call 54; refine (HR8.out _ gm cm HM8.out.2.2.1).mono ?_; rintro e w10 ⟨rfl, m10, rfl⟩)
                            | (gi_at_builtin; refine stop ?_))
                          unfold Stop
                          have HFSx : FS w W2 F N (setSt st' R2 ((D : Int) + 1)) M7 C7 (.slice (some aq') L'.length capq') L' ((w8.drewN m10).setCell ⟨w.heap.size + 1, R2, none⟩ (.int .i64 ((D : Int) + 1))) := (HFS8.out.later (drewN_below _ _)).setS hR2F _
                          have hsz : ((w8.drewN m10).setCell ⟨w.heap.size + 1, R2, none⟩ (.int .i64 ((D : Int) + 1))).heap.size = w8.heap.size := by simp [World.setCell, World.drewN]
                          have hel : ElemAt ((w8.drewN m10).setCell ⟨w.heap.size + 1, R2, none⟩ (.int .i64 ((D : Int) + 1))) w.heap.size W2.heap.size N (.slice (some ⟨gm, 0, none⟩) N cm) q := by
                            refine ⟨⟨gm, 0, none⟩, cm, rfl, ((ElemIn.later (wr := w8) ?_ hHS3 (drewN_below _ _)).set1 hHS3 _ _)⟩
                            refine ⟨HM8.out.2.1, HM8.out.2.2.1.lt (by omega), .inr ⟨Nat.le_trans hWle HM8.out.1, HM8.out.2.2.2.1⟩, fun i hi => ?_⟩
                            rw [Addr.add_lit, Nat.zero_add]
                            exact (HM8.out.2.2.1 i hi).1
                          obtain ⟨vs, h1, h2⟩ := HFSx.q
                          obtain ⟨i38, hi38, hz38, hs38, hb38⟩ := info_parts t38_info
                          have hW2s := HFSx.keep.1
                          refine wpListIn_append_own _ rfl _ _ 94 rfl W2.heap.size 38 i38 _ 1 24 under94 hi38 hz38 hs38 hb38 rfl (by decide) _ _ _ rfl (World.ownsRow.alloc h1 _) ⟨w8.heap.size, 0, none⟩ 1 1 [.slice (some ⟨gm, 0, none⟩) N cm] rfl rfl (fun j u hu => by
                            have hj0 : j = 0 := by have := (List.getElem?_eq_some_iff.1 hu).1; simp at this; omega
                            subst hj0
                            simp at hu; subst hu
                            rw [← hsz]
                            exact World.cell?_alloc_new _ _ _ _) (fun u hu => by simp at hu; subst hu; rfl) (by unfold maxLen; omega) (by omega) (by simp; omega) ?_
                          intro v2 wn hown2 hgrow2 _
                          have HFSn := Hid.intro (HFSx.append h1 h2 hel _ hown2 hgrow2)
                          have hne : ∀ t, t ∈ L' → setSt st' R2 ((D : Int) + 1) (rankF t N N) = st' (rankF t N N) := fun t ht => by
                            unfold setSt
                            rw [if_neg]
                            intro e
                            rw [← HR2.out] at e
                            exact HMEM.out (rank_inj (HFJ.out.pos t ht) HMov.out.pos e ▸ ht)
                          have HNE := Hid.intro hne
                          have HFN : Hid (FarInv qs N s (L' ++ [q]) (setSt st' R2 ((D : Int) + 1)) k (Pm (nbs qs N h) z h (m + 1))) := by
                            have h5 := HFJ.out.new HLk.out HMov.out HMEM.out HPM.out
                            rw [HR2.out, HRZ.out.1, HSD.out] at h5
                            exact h5
                          have HSD2 : Hid (setSt st' R2 ((D : Int) + 1) R1 = (D : Int)) := by
                            have h5 := HNE.out z (List.mem_of_getElem? HLk.out)
                            rw [HRZ.out.1] at h5
                            exact h5.trans HSD.out
                          clear HFSx hsz hel h1 h2 hown2 hgrow2 hne
                          gi_wp2
                          exact ⟨⟨m + 1, L' ++ [q], setSt st' R2 ((D : Int) + 1), by omega, by go_num, HFSn, HFN, HFT.out.grow (by omega) HNE.out, Hid.intro (by rw [List.getElem?_append_left hkL]; exact HLk.out), HSD2⟩, by simp [intOf]; omega⟩
                    · have hml : nl = m := by omega
                      subst hml
                      have hkL : k < L'.length := (List.getElem?_eq_some_iff.1 HLk.out).1
                      gi_wp2
                      exact ⟨⟨k + 1, L', st', M7, C7, by omega, by go_num, HFS.out, HFJ.out.next HLk.out (fun b hb => by have := Pm_all HQ.out HPH.out hb; rw [HNL.out] at this; exact this), HFT.out⟩, by simp [intOf]; omega⟩
              · have hkL : L.length = k := by omega
                subst hkL
                have hLF : L.length ≤ F := by have := pos_count HFI.out.q.nd HFI.out.pos; rw [HFE.out] at this; exact this
                obtain ⟨z, hz⟩ : ∃ z, L[0]? = some z := by
                  have h1 := List.length_pos_of_mem HFI.out.q.st
                  exact ⟨L[0], List.getElem?_eq_getElem h1⟩
                obtain ⟨aq, capq, a, cap, rfl, _, _, _, _⟩ := HFS.out.elem hz
                have c70 := HFS.out.c70
                have c71 : wr.cell? ⟨w.heap.size + 2, 1, none⟩ = some (.int .i64 0) := (HFS.out.fb.out 1 (by omega)).1
                have c72 : wr.cell? ⟨w.heap.size + 2, 2, none⟩ = some (.int .i64 (M : Int)) := (HFS.out.fb.out 2 (by omega)).1
                have c73 : wr.cell? ⟨w.heap.size + 2, 3, none⟩ = some (.int .i64 (C : Int)) := (HFS.out.fb.out 3 (by omega)).1
                have f71 := (HFS.out.fb.out 1 (by omega)).2
                have r0 : wr.cell? ⟨w.heap.size, 0, none⟩ = some (.slice none 0 0) := (HFS.out.fb.res 0 (by omega)).1
                have r1 : wr.cell? ⟨w.heap.size, 1, none⟩ = some (.int .i64 0) := (HFS.out.fb.res 1 (by omega)).1
                have r2 : wr.cell? ⟨w.heap.size, 2, none⟩ = some (.int .i64 0) := (HFS.out.fb.res 2 (by omega)).1
                have r3 : wr.cell? ⟨w.heap.size, 3, none⟩ = some (.int .i64 0) := (HFS.out.fb.res 3 (by omega)).1
                have q0 := (HFS.out.fb.res 0 (by omega)).2
                have q1 := (HFS.out.fb.res 1 (by omega)).2
                have q2 := (HFS.out.fb.res 2 (by omega)).2
                have q3 := (HFS.out.fb.res 3 (by omega)).2
                have HEND : Hid (FarEnd qs N s st L.length M C) := FarInv.ended hN.2 HFI.out HFT.out
                clear hz
                gi_wp2
                refine bodyPost_ret (v := .agg #[.slice (some ⟨w.heap.size + 1, 0, none⟩) F F, .int .i64 (L.length : Int), .int .i64 (M : Int), .int .i64 (C : Int)]) (by simp [results, Tryd.results21, go_sem, c70, c71, c72, c73, r0, r1, r2, r3]) rfl ⟨?_, ?_⟩
                · refine ⟨w.heap.size + 1, L.length, M, C, st, by rw [HFE.out], by omega, ?_, HEND.out⟩
                  rw [HFE.out]
                  repeat (refine ArrAt.far ?_ (by simp) _)
                  exact HFS.out.fb.steps
                · repeat (refine Below.setCell ?_ (by simp) _)
                  exact HFS.out.fb.below
end Go.Eng

namespace Go.Eng
open Go.RowKit Go.Proofs Go.Proofs.YtjcmalmcijpnnaaDoor

def farV (gs F : Nat) (cnt most last : Int) : Value := .agg #[.slice (some ⟨gs, 0, none⟩) F F, .int .i64 cnt, .int .i64 most, .int .i64 last]

set_option maxRecDepth 100000 in
set_option maxHeartbeats 8000000 in
/-- **'Steps' of the reference.** -/
theorem steps_calls (w : World) (gs F N : Nat) (hN : N ≤ 9) (cnt most last : Int) (st : Nat → Int) (hS : ArrAt w gs F fun i => .int .i64 (st i)) (hF : prodF N N = F) (hFb : F ≤ 362880) (a : Addr) (cap : Nat) (z : Nat → Int) (ha : a.block < w.heap.size) (hz : ∀ i, i < N → w.cell? (a.add i) = some (.int .i64 (z i))) :
    CallsIn Fence.wide 0 Tryd.prog 24 #[farV gs F cnt most last, .slice (some a) N cap] w fun e w' => e = .returned (.int .i64 (st (rankF z N N))) ∧ Below w.heap.size w w' := by
  have hRF : rankF z N N < F := by rw [← hF]; exact rankF_lt (Nat.le_refl N)
  have HZ := Hid.intro hz
  have HB1 : Hid (Below w.heap.size w (w.alloc (.cells #[.slice (some ⟨gs, 0, none⟩) F F, .int .i64 cnt, .int .i64 most, .int .i64 last] 42))) := (Below.refl _ _).alloc (Nat.le_refl _) _
  have hS1 : ArrAt (w.alloc (.cells #[.slice (some ⟨gs, 0, none⟩) F F, .int .i64 cnt, .int .i64 most, .int .i64 last] 42)) gs F fun i => .int .i64 (st i) := hS.alloc (hS.lt (by omega)) _
  have hA : ArrAt (w.alloc (.cells #[.slice (some ⟨gs, 0, none⟩) F F, .int .i64 cnt, .int .i64 most, .int .i64 last] 42)) w.heap.size 4 fun i => match i with | 0 => .slice (some ⟨gs, 0, none⟩) F F | 1 => .int .i64 cnt | 2 => .int .i64 most | _ => .int .i64 last :=
    ArrAt.new w _ _ fun i hi => by
      have : i = 0 ∨ i = 1 ∨ i = 2 ∨ i = 3 := by omega
      rcases this with rfl | rfl | rfl | rfl <;> rfl
  obtain ⟨W1, hW1⟩ : ∃ W1, W1 = w.alloc (.cells #[.slice (some ⟨gs, 0, none⟩) F F, .int .i64 cnt, .int .i64 most, .int .i64 last] 42) := ⟨_, rfl⟩
  rw [← hW1] at HB1 hS1 hA
  obtain ⟨R, hR⟩ : ∃ R, rankF z N N = R := ⟨_, rfl⟩
  have c0 : W1.cell? ⟨w.heap.size, 0, none⟩ = some (.slice (some ⟨gs, 0, none⟩) F F) := (hA 0 (by omega)).1
  rw [hR] at hRF ⊢
  have cR : W1.cell? ⟨gs, R, none⟩ = some (.int .i64 (st R)) := (hS1 R hRF).1
  obtain ⟨X, hX⟩ : ∃ X, st R = X := ⟨_, rfl⟩
  rw [hX] at cR ⊢
  have HR : Hid (∀ m, CallsIn Fence.wide 0 Tryd.prog 54 #[.slice (some a) N cap] (W1.drewN m) fun e w' => e = .returned (.int .i64 (R : Int)) ∧ ∃ m', w' = (W1.drewN m).drewN m') := fun m => by
    rw [← hR]
    exact rank_calls _ a N cap hN z (fun i hi => (HB1.out.cell (p := a.add i) (by rw [add_block]; exact ha)).trans (HZ.out i hi))
  have HW1 := Hid.intro hW1
  clear hz hS hS1 hA hR hX hF
  refine callsIn_of_wp Tryd.func24 rfl trivial ?_ rfl
  simp only [farV, Tryd.ntmps24, List.size_toArray, List.length_cons, List.length_nil, Nat.reduceAdd, Nat.reduceSub, Array.replicate_succ, Array.replicate_zero, List.push_toArray, List.append_toArray, List.nil_append, List.cons_append]
  gi_wp2
  rw [← hW1]
  clear hW1
  gi_quiet ((gi_at_call 54; refine CallsIn.quiet_of (HR.out _)))
  gi_wp2
  all_goals (first | go_returns | go_ret | go_end0)
  exact ⟨rfl, HB1.out.trans ((drewN_below _ _).mono HB1.out.size)⟩

def farC (gs F : Nat) (cnt most last : Int) : Nat → Value := fun i => match i with | 0 => .slice (some ⟨gs, 0, none⟩) F F | 1 => .int .i64 cnt | 2 => .int .i64 most | _ => .int .i64 last
theorem farC_new (w : World) (gs F : Nat) (cnt most last : Int) (t : TypeId) : ArrAt (w.alloc (.cells #[.slice (some ⟨gs, 0, none⟩) F F, .int .i64 cnt, .int .i64 most, .int .i64 last] t)) w.heap.size 4 (farC gs F cnt most last) :=
  ArrAt.new w _ _ fun i hi => by
    have : i = 0 ∨ i = 1 ∨ i = 2 ∨ i = 3 := by omega
    rcases this with rfl | rfl | rfl | rfl <;> rfl
set_option maxRecDepth 100000 in
set_option maxHeartbeats 8000000 in
/-- 'sized', where all places are chosen. -/
theorem sized_zero (N : Nat) (hN : 2 ≤ N ∧ N ≤ 9) (gs F : Nat) (hF : prodF N N = F) (hFb : F ≤ 362880) (cnt most last : Int) (st : Nat → Int) (w : World) (a : Addr) (cap : Nat) (z : Nat → Int)
    (hS : ArrAt w gs F fun i => .int .i64 (st i)) (ha : a.block < w.heap.size) (hz : ∀ i, i < N → w.cell? (a.add i) = some (.int .i64 (z i))) :
    CallsIn Fence.wide 0 Tryd.prog 52 #[farV gs F cnt most last, .slice (some a) N cap, .int .i64 (N : Int)] w fun e w' => e = .returned (.int .i64 ((sizedF N st 0 z : Nat) : Int)) ∧ Below w.heap.size w w' := by
  have hF0 : 0 < F := by have := rankF_lt (z := z) (Nat.le_refl N); omega
  have HB1 : Hid (Below w.heap.size w (w.alloc (.cells #[.slice (some ⟨gs, 0, none⟩) F F, .int .i64 cnt, .int .i64 most, .int .i64 last] 42))) := (Below.refl _ _).alloc (Nat.le_refl _) _
  have hA := farC_new w gs F cnt most last 42
  have HST : Hid (CallsIn Fence.wide 0 Tryd.prog 24 #[.agg #[.slice (some ⟨gs, 0, none⟩) F F, .int .i64 cnt, .int .i64 most, .int .i64 last], .slice (some a) N cap] (w.alloc (.cells #[.slice (some ⟨gs, 0, none⟩) F F, .int .i64 cnt, .int .i64 most, .int .i64 last] 42)) _) :=
    steps_calls _ gs F N hN.2 cnt most last st (hS.alloc (hS.lt hF0) _) hF hFb a cap z (by simp; omega) (fun i hi => (HB1.out.cell (p := a.add i) (by rw [add_block]; exact ha)).trans (hz i hi))
  obtain ⟨W1, hW1⟩ : ∃ W1, W1 = w.alloc (.cells #[.slice (some ⟨gs, 0, none⟩) F F, .int .i64 cnt, .int .i64 most, .int .i64 last] 42) := ⟨_, rfl⟩
  rw [← hW1] at HB1 hA HST
  have c0 : W1.cell? ⟨w.heap.size, 0, none⟩ = some (.slice (some ⟨gs, 0, none⟩) F F) := (hA 0 (by omega)).1
  have c1 : W1.cell? ⟨w.heap.size, 1, none⟩ = some (.int .i64 cnt) := (hA 1 (by omega)).1
  have c2 : W1.cell? ⟨w.heap.size, 2, none⟩ = some (.int .i64 most) := (hA 2 (by omega)).1
  have c3 : W1.cell? ⟨w.heap.size, 3, none⟩ = some (.int .i64 last) := (hA 3 (by omega)).1
  have HS0 : Hid (∀ X, st (rankF z N N) = X → ((sizedF N st 0 z : Nat) : Int) = if 0 ≤ X then 1 else 0) := fun X hX => by
    unfold sizedF
    rw [hX]
    split <;> rfl
  obtain ⟨X, hX⟩ : ∃ X, st (rankF z N N) = X := ⟨_, rfl⟩
  have h0 := HS0.out X hX
  rw [h0]
  rw [hX] at HST
  clear hS hz hA hX h0 HS0 hF
  refine callsIn_of_wp Tryd.func52 rfl trivial ?_ rfl
  simp only [farV, Tryd.ntmps52, List.size_toArray, List.length_cons, List.length_nil, Nat.reduceAdd, Nat.reduceSub, Array.replicate_succ, Array.replicate_zero, List.push_toArray, List.append_toArray, List.nil_append, List.cons_append]
  by_cases hX0 : 0 ≤ X
  · rw [if_pos hX0]
    gi_wp2_with (rw [← hW1]; gi_at_call 24; refine HST.out.mono ?_; rintro e w2 ⟨rfl, hB2⟩)
    all_goals (first | go_returns | go_ret | go_end0)
    exact ⟨rfl, HB1.out.trans (hB2.mono HB1.out.size)⟩
  · rw [if_neg hX0]
    have hX1 : X < 0 := by omega
    gi_wp2_with (rw [← hW1]; gi_at_call 24; refine HST.out.mono ?_; rintro e w2 ⟨rfl, hB2⟩)
    all_goals (first | go_returns | go_ret | go_end0)
    exact ⟨rfl, HB1.out.trans (hB2.mono HB1.out.size)⟩

set_option maxRecDepth 100000 in
set_option maxHeartbeats 8000000 in
/-- 'sized', where a place is to be chosen. -/
theorem sized_succ (N : Nat) (hN : 2 ≤ N ∧ N ≤ 9) (gs F : Nat) (hF0 : 0 < F) (cnt most last : Int) (st : Nat → Int) (A m : Nat) (hA : N = A + (m + 1))
    (ih : ∀ (w : World) (a : Addr) (cap : Nat) (z : Nat → Int), ArrAt w gs F (fun i => .int .i64 (st i)) → a.block < w.heap.size → (∀ i, i < N → w.cell? (a.add i) = some (.int .i64 (z i))) →
      CallsIn Fence.wide 0 Tryd.prog 52 #[farV gs F cnt most last, .slice (some a) N cap, .int .i64 ((A : Int) + 1)] w fun e w' => e = .returned (.int .i64 ((sizedF N st m z : Nat) : Int)) ∧ Below w.heap.size w w')
    (w : World) (a : Addr) (cap : Nat) (z : Nat → Int) (hS : ArrAt w gs F fun i => .int .i64 (st i)) (ha : a.block < w.heap.size) (hz : ∀ i, i < N → w.cell? (a.add i) = some (.int .i64 (z i))) :
    CallsIn Fence.wide 0 Tryd.prog 52 #[farV gs F cnt most last, .slice (some a) N cap, .int .i64 (A : Int)] w fun e w' => e = .returned (.int .i64 ((sizedF N st (m + 1) z : Nat) : Int)) ∧ Below w.heap.size w w' := by
  have HIH := Hid.intro ih
  have hgs := hS.lt hF0
  have HB1 : Hid (Below w.heap.size w (w.alloc (.cells #[.slice (some ⟨gs, 0, none⟩) F F, .int .i64 cnt, .int .i64 most, .int .i64 last] 42))) := (Below.refl _ _).alloc (Nat.le_refl _) _
  have hA1 := farC_new w gs F cnt most last 42
  have hsz1 : (w.alloc (.cells #[.slice (some ⟨gs, 0, none⟩) F F, .int .i64 cnt, .int .i64 most, .int .i64 last] 42)).heap.size = w.heap.size + 1 := by simp
  have HSF : Hid (sizedF N st (m + 1) z = sumTo (fun i => sizedF N st m (swapAt z A (A + i))) (m + 1)) := by
    show sumTo _ _ = _
    rw [show N - (m + 1) = A by omega]
  have HLE : Hid (∀ k, k ≤ m + 1 → sumTo (fun i => sizedF N st m (swapAt z A (A + i))) k ≤ 362880) := fun k hk => by
    refine Nat.le_trans (sumTo_mono hk) ?_
    rw [← HSF.out]
    exact Nat.le_trans sizedF_le (facM_le (by omega))
  rw [HSF.out]
  obtain ⟨f, hf⟩ : ∃ f, (fun i => sizedF N st m (swapAt z A (A + i))) = f := ⟨_, rfl⟩
  rw [hf] at HLE ⊢
  have HF : Hid (∀ i, sizedF N st m (swapAt z A (A + i)) = f i) := fun i => by rw [← hf]
  have HS := Hid.intro hS
  have HZ := Hid.intro hz
  obtain ⟨W1, hW1⟩ : ∃ W1, W1 = w.alloc (.cells #[.slice (some ⟨gs, 0, none⟩) F F, .int .i64 cnt, .int .i64 most, .int .i64 last] 42) := ⟨_, rfl⟩
  rw [← hW1] at HB1 hA1 hsz1
  have HA1 := Hid.intro hA1
  have hAl : A + (m + 1) ≤ N := by omega
  have hAg : N ≤ A + (m + 1) := by omega
  clear hS hz hf ih HSF hA1 hA
  refine callsIn_of_wp Tryd.func52 rfl trivial ?_ rfl
  simp only [farV, Tryd.ntmps52, List.size_toArray, List.length_cons, List.length_nil, Nat.reduceAdd, Nat.reduceSub, Array.replicate_succ, Array.replicate_zero, List.push_toArray, List.append_toArray, List.nil_append, List.cons_append]
  have hne : A < N := by omega
  have hAN : ((A : Int) == (N : Int)) = false := by rw [beq_eq_false_iff_ne]; omega
  gi_wp2
  rw [← hW1]
  clear hW1
  gi_loopw [7, 8] (fun s i wr => ∃ k : Nat, k ≤ m + 1 ∧ s = .int .i64 ((sumTo f k : Nat) : Int) ∧ i = .int .i64 ((A : Int) + (k : Int)) ∧ Hid (Below W1.heap.size W1 wr)) (fun _ i _ => N - (intOf i).toNat)
  case atStart => exact ⟨0, by omega, rfl, by simp, Below.refl _ _⟩
  case round =>
    obtain ⟨k, hk, rfl, rfl, HB⟩ := hrel
    have hle := HLE.out k hk
    by_cases hlt : k < m + 1
    · have HBW : Hid (Below w.heap.size w wr) := HB1.out.trans (HB.out.mono HB1.out.size)
      have HZW : Hid (∀ i, i < N → wr.cell? (a.add i) = some (.int .i64 (z i))) := fun i hi => (HBW.out.cell (p := a.add i) (by rw [add_block]; exact ha)).trans (HZ.out i hi)
      have HAW : Hid (ArrAt wr w.heap.size 4 (farC gs F cnt most last)) := HA1.out.below (by omega) HB.out
      have hle2 := HLE.out (k + 1) (by omega)
      have HK1 : Hid (sumTo f (k + 1) = sumTo f k + f k) := Hid.intro rfl
      rw [HK1.out] at hle2
      obtain ⟨X, hX⟩ : ∃ X, sumTo f k = X := ⟨_, rfl⟩
      obtain ⟨Y, hY⟩ : ∃ Y, f k = Y := ⟨_, rfl⟩
      rw [hX, hY] at hle2
      rw [hX] at hle ⊢
      have HX := Hid.intro hX
      have HY := Hid.intro hY
      have hwr := HBW.out.size
      have hwr1 := HB.out.size
      clear hX hY
      gi_wp2_with (gi_at_builtin; refine stop ?_)
      unfold Stop
      refine wpListIn_append_own _ rfl _ _ 38 rfl wr.heap.size 3 Tryd.t3 _ 1 8 Go.Eng.u38 t3_info t3_zero t3_size t3_bytes rfl (by decide) _ 0 [] rfl (World.ownsRow_nil _ _ _ _) a N cap (((List.range N).map z).map (Value.int .i64)) rfl (by simp) ?_ (nums_one _) (by unfold maxLen; omega) (by omega) (Nat.le_refl _) ?_
      · intro j u hu
        rw [List.getElem?_map, Option.map_eq_some_iff] at hu
        obtain ⟨x, hx, rfl⟩ := hu
        rw [List.getElem?_map, Option.map_eq_some_iff] at hx
        obtain ⟨i, hi, rfl⟩ := hx
        have := List.getElem?_eq_some_iff.1 hi
        obtain ⟨h1, h2⟩ := this
        simp at h1 h2
        subst h2
        exact HZW.out j h1
      · intro v1 w1 hown1 hgrow1 _
        have hB2 : Below wr.heap.size wr w1 := (Below.refl _ wr).grown hgrow1 (Nat.le_refl _) (fun _ h => by cases h)
        obtain ⟨g, cap1, rfl, hcap1, hgw⟩ : ∃ g cap1, v1 = .slice (some ⟨g, 0, none⟩) N cap1 ∧ N ≤ cap1 ∧ wr.heap.size ≤ g := by
          rcases hown1.2 with ⟨_, h⟩ | ⟨g, cap1, _, h, h1, _, h3, _⟩
          · omega
          · rw [Nat.zero_add] at h h3; exact ⟨g, cap1, h, h3, h1⟩
        have HA2 : Hid (ArrAt w1 g N fun i => .int .i64 (z i)) := by
          rw [Nat.zero_add] at hown1
          refine ArrAt.of_row hown1 fun i hi => ?_
          simp [hi]
        have HB2 := Hid.intro hB2
        obtain ⟨x, hx⟩ : ∃ x, z (A + k) = x := ⟨_, rfl⟩
        obtain ⟨y, hy⟩ : ∃ y, z A = y := ⟨_, rfl⟩
        have ca : w1.cell? (a.add (A + k)) = some (.int .i64 x) := by
          rw [← hx]; exact (hB2.cell (p := a.add (A + k)) (by rw [add_block]; show a.block < _; omega)).trans (HZW.out (A + k) (by omega))
        have cb : w1.cell? (a.add A) = some (.int .i64 y) := by
          rw [← hy]; exact (hB2.cell (p := a.add A) (by rw [add_block]; show a.block < _; omega)).trans (HZW.out A (by omega))
        have sa := fun (W : World) (j : Nat) (v : Value) => far_cell (p := a.add A) (g := g) (by rw [add_block]; omega) W j v
        have d0 := (HA2.out A (by omega)).1
        have d1 := (HA2.out A (by omega)).2
        have e1 := (HA2.out (A + k) (by omega)).2
        obtain ⟨vv, e0⟩ : ∃ v, (w1.setCell ⟨g, A, none⟩ (.int .i64 x)).cell? ⟨g, A + k, none⟩ = some v := ⟨_, (HA2.out.set (i := A) (by omega) (.int .i64 x) (A + k) (by omega)).1⟩
        have HAF := HAW.out.below (B := wr.heap.size) (by omega) hB2
        have b0 : w1.cell? ⟨w.heap.size, 0, none⟩ = some (.slice (some ⟨gs, 0, none⟩) F F) := (HAF 0 (by omega)).1
        have b1 : w1.cell? ⟨w.heap.size, 1, none⟩ = some (.int .i64 cnt) := (HAF 1 (by omega)).1
        have b2 : w1.cell? ⟨w.heap.size, 2, none⟩ = some (.int .i64 most) := (HAF 2 (by omega)).1
        have b3 : w1.cell? ⟨w.heap.size, 3, none⟩ = some (.int .i64 last) := (HAF 3 (by omega)).1
        have HBE : Hid (Below w.heap.size w ((w1.setCell ⟨g, A, none⟩ (.int .i64 x)).setCell ⟨g, A + k, none⟩ (.int .i64 y)) ∧ Below W1.heap.size W1 ((w1.setCell ⟨g, A, none⟩ (.int .i64 x)).setCell ⟨g, A + k, none⟩ (.int .i64 y))) :=
          ⟨((HBW.out.trans (hB2.mono hwr)).setCell (p := ⟨g, A, none⟩) (by show w.heap.size ≤ g; omega) _).setCell (p := ⟨g, A + k, none⟩) (by show w.heap.size ≤ g; omega) _, ((HB.out.trans (hB2.mono hwr1)).setCell (p := ⟨g, A, none⟩) (by show W1.heap.size ≤ g; omega) _).setCell (p := ⟨g, A + k, none⟩) (by show W1.heap.size ≤ g; omega) _⟩
        have HCALL : Hid (CallsIn Fence.wide 0 Tryd.prog 52 #[.agg #[.slice (some ⟨gs, 0, none⟩) F F, .int .i64 cnt, .int .i64 most, .int .i64 last], .slice (some ⟨g, 0, none⟩) N cap1, .int .i64 ((A : Int) + 1)] ((w1.setCell ⟨g, A, none⟩ (.int .i64 x)).setCell ⟨g, A + k, none⟩ (.int .i64 y)) fun e w' => e = .returned (.int .i64 (Y : Int)) ∧ Below w1.heap.size ((w1.setCell ⟨g, A, none⟩ (.int .i64 x)).setCell ⟨g, A + k, none⟩ (.int .i64 y)) w') := by
          have hA3 := (HA2.out.set (i := A) (by omega) (.int .i64 x)).set (i := A + k) (by omega) (.int .i64 y)
          have hg1 := HA2.out.lt (by omega)
          have h5 := HIH.out ((w1.setCell ⟨g, A, none⟩ (.int .i64 x)).setCell ⟨g, A + k, none⟩ (.int .i64 y)) ⟨g, 0, none⟩ cap1 (swapAt z A (A + k)) (HS.out.below hgs HBE.out.1) (by simpa [World.setCell] using hg1) (fun i hi => by
            rw [Addr.add_lit, Nat.zero_add, (hA3 i hi).1]
            dsimp only
            unfold swapAt
            by_cases e1 : i = A + k
            · rw [if_pos e1, if_pos e1, hy]
            · rw [if_neg e1, if_neg e1]
              by_cases e2 : i = A
              · rw [if_pos e2, if_pos e2, hx]
              · rw [if_neg e2, if_neg e2])
          rw [HF.out k, HY.out] at h5
          refine h5.mono ?_
          rintro e w' ⟨rfl, hb⟩
          exact ⟨rfl, hb.mono (by simp [World.setCell])⟩
        clear hown1 hgrow1 hB2 hx hy HAF
        gi_wp2_with (gi_at_call 52; refine HCALL.out.mono ?_; rintro e w5 ⟨rfl, hB5⟩; have HB5 := Hid.intro hB5; clear hB5)
        refine ⟨⟨k + 1, by omega, by rw [HK1.out, HX.out, HY.out]; rfl, by go_num, HBE.out.2.trans (HB5.out.mono ?_)⟩, by simp [intOf]; omega⟩
        exact Nat.le_trans hwr1 HB2.out.size
    · have e : m + 1 = k := by omega
      subst e
      gi_wp2
      all_goals (first | go_returns | go_ret | go_end0)
      exact ⟨rfl, HB1.out.trans (HB.out.mono HB1.out.size)⟩
end Go.Eng

namespace Go.Eng
open Go.RowKit Go.Proofs Go.Proofs.YtjcmalmcijpnnaaDoor

theorem sized_calls (N : Nat) (hN : 2 ≤ N ∧ N ≤ 9) (gs F : Nat) (hF : prodF N N = F) (hFb : F ≤ 362880) (cnt most last : Int) (st : Nat → Int) : ∀ (m A : Nat), N = A + m → ∀ (w : World) (a : Addr) (cap : Nat) (z : Nat → Int),
    ArrAt w gs F (fun i => .int .i64 (st i)) → a.block < w.heap.size → (∀ i, i < N → w.cell? (a.add i) = some (.int .i64 (z i))) →
    CallsIn Fence.wide 0 Tryd.prog 52 #[farV gs F cnt most last, .slice (some a) N cap, .int .i64 (A : Int)] w fun e w' => e = .returned (.int .i64 ((sizedF N st m z : Nat) : Int)) ∧ Below w.heap.size w w'
  | 0, A, hA, w, a, cap, z, hS, ha, hz => by
    have e : A = N := by omega
    subst e
    exact sized_zero A hN gs F hF hFb cnt most last st w a cap z hS ha hz
  | m + 1, A, hA, w, a, cap, z, hS, ha, hz => by
    have hF0 : 0 < F := by have := rankF_lt (z := z) (Nat.le_refl N); omega
    refine sized_succ N hN gs F hF0 cnt most last st A m hA (fun w a cap z hS ha hz => ?_) w a cap z hS ha hz
    have := sized_calls N hN gs F hF hFb cnt most last st m (A + 1) (by omega) w a cap z hS ha hz
    rw [show ((A + 1 : Nat) : Int) = (A : Int) + 1 from by simp] at this
    exact this

/-- What 'Size' of the reference answers: the count of what is reached with the hole at the first place. -/
def SizeSaid (qs : List (Nat × Nat)) (N : Nat) (e : Ending) : Prop := ∃ st cnt most last, FarEnd qs N (idF N) st cnt most last ∧ e = .returned (.int .i64 ((sizedF N st (N - 1) (idF N) : Nat) : Int))

theorem first_cells {w : World} {v : Value} {N : Nat} (hN : 0 < N) (h : IntsAt w v ((List.range N).map fun i : Nat => (i : Int))) : ∃ a cap, v = .slice (some a) N cap ∧ N ≤ cap ∧ a.block < w.heap.size ∧ ∀ i, i < N → w.cell? (a.add i) = some (.int .i64 (idF N i)) := by
  rcases h with ⟨_, h⟩ | ⟨a, cap, rfl, h1, _, h2, h3⟩
  · have := congrArg List.length h
    simp at this
    omega
  · simp at h1 h2 h3
    refine ⟨a, cap, by simp, h1, h2 hN, fun i hi => ?_⟩
    rw [h3 i hi]
    unfold idF
    rw [if_pos hi]
    simp [hi]

set_option maxRecDepth 100000 in
set_option maxHeartbeats 8000000 in
/-- **'Size' of the reference.** -/
theorem refSize_calls (w : World) (N : Nat) (hN : 2 ≤ N ∧ N ≤ 9) (ox : Option Addr) (cx : Nat) (qs : List (Nat × Nat)) (hed : EdgesAt w ox qs) (hql : qs.length ≤ 1000) (hq : ∀ q ∈ qs, q.1 < q.2 ∧ q.2 < N) :
    CallsIn Fence.wide 0 Tryd.prog 19 #[.int .i64 (N : Int), .slice ox qs.length cx] w fun e w' => SizeSaid qs N e ∧ Below w.heap.size w w' := by
  have HED := Hid.intro hed
  have HQ := Hid.intro hq
  have HFi : Hid (∀ w', CallsIn Fence.wide 0 Tryd.prog 53 #[.int .i64 (N : Int)] w' fun e w'' => (∃ a cap, e = .returned (.slice (some a) N cap) ∧ N ≤ cap ∧ a.block < w''.heap.size ∧ Hid (∀ i, i < N → w''.cell? (a.add i) = some (.int .i64 (idF N i)))) ∧ Below w'.heap.size w' w'') := fun w' => by
    refine (first_calls w' N hN.2).mono ?_
    rintro e w'' ⟨v, rfl, hi, hb⟩
    obtain ⟨a, cap, rfl, h1, h2, h3⟩ := first_cells (by omega) hi
    exact ⟨⟨a, cap, rfl, h1, h2, h3⟩, hb⟩
  have HFar : Hid (∀ w' a cap, Below w.heap.size w w' → N ≤ cap → a.block < w'.heap.size → Hid (∀ i, i < N → w'.cell? (a.add i) = some (.int .i64 (idF N i))) → CallsIn Fence.wide 0 Tryd.prog 21 #[.int .i64 (N : Int), .slice ox qs.length cx, .slice (some a) N cap] w' fun e w'' => FarSaid w' qs N (idF N) e w'' ∧ Below w'.heap.size w' w'') := fun w' a cap hb hc ha hz =>
    farther_calls w' N hN ox cx qs (HED.out.below hb) hql hq a cap ha hc (idF N) (idF_pos N) hz.out
  have hFb := prodF_le hN.2
  obtain ⟨F, hF⟩ : ∃ F, prodF N N = F := ⟨_, rfl⟩
  rw [hF] at hFb
  have HF := Hid.intro hF
  clear hed hq hF
  refine callsIn_of_wp Tryd.func19 rfl trivial ?_ rfl
  simp only [Tryd.ntmps19, List.size_toArray, List.length_cons, List.length_nil, Nat.reduceAdd, Nat.reduceSub, Array.replicate_succ, Array.replicate_zero, List.push_toArray, List.append_toArray, List.nil_append, List.cons_append]
  gi_wp2_with (gi_at_call 53; refine (HFi.out _).mono ?_; rintro e w1 ⟨⟨a1, cap1, rfl, hc1, ha1, HZ1⟩, hB1⟩; have HB1 := Hid.intro hB1; refine stop ?_)
  unfold Stop
  gi_wp2_with (gi_at_call 21; refine (HFar.out _ _ _ HB1.out hc1 ha1 HZ1).mono ?_; rintro e w2 ⟨⟨gs, cnt, most, last, st, rfl, hgs, hA, hE⟩, hB2⟩; rw [HF.out] at hA; rw [HF.out]; have HA2 := Hid.intro hA; have HE := Hid.intro hE; have HB2 := Hid.intro (HB1.out.trans (hB2.mono HB1.out.size)); clear hA hE hB2; refine stop ?_)
  unfold Stop
  have HSz : Hid (∀ w3 a3 cap3, Below w2.heap.size w2 w3 → a3.block < w3.heap.size → Hid (∀ i, i < N → w3.cell? (a3.add i) = some (.int .i64 (idF N i))) →
      CallsIn Fence.wide 0 Tryd.prog 52 #[.agg #[.slice (some ⟨gs, 0, none⟩) F F, .int .i64 (cnt : Int), .int .i64 (most : Int), .int .i64 (last : Int)], .slice (some a3) N cap3, .int .i64 1] w3 fun e w' => e = .returned (.int .i64 ((sizedF N st (N - 1) (idF N) : Nat) : Int)) ∧ Below w3.heap.size w3 w') := fun w3 a3 cap3 hb ha hz =>
    sized_calls N hN gs F HF.out hFb cnt most last st (N - 1) 1 (by omega) w3 a3 cap3 (idF N) (HA2.out.below (HA2.out.lt (by have := rankF_lt (z := idF N) (Nat.le_refl N); have := HF.out; omega)) hb) ha hz.out
  gi_wp2_with (first
    | (gi_at_call 53; refine (HFi.out _).mono ?_; rintro e w3 ⟨⟨a3, cap3, rfl, hc3, ha3, HZ3⟩, hB3⟩; have HB3 := Hid.intro hB3; clear hB3)
    | (gi_at_call 52; refine (HSz.out _ _ _ HB3.out ha3 HZ3).mono ?_; rintro e w4 ⟨rfl, hB4⟩; have HB4 := Hid.intro hB4; clear hB4))
  all_goals (first | go_returns | go_ret | go_end0)
  exact ⟨⟨st, cnt, most, last, HE.out, rfl⟩, HB2.out.trans ((HB3.out.trans (HB4.out.mono HB3.out.size)).mono HB2.out.size)⟩
end Go.Eng
