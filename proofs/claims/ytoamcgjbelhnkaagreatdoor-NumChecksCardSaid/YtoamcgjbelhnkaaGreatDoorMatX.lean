/-
  Rows of fractions; what 'matrix' and the two 'Check' answer; the program's functions on matrices where 'Check' finds fault.
  Conditions: none.
-/
import Derived.Test.YtoamcgjbelhnkaaGreatDoorLawX
import Derived.BigFrameIn
import Derived.Test.YtoamcgjbelhnkaaGreatDoorRefR
import Derived.Test.YtoamcgjbelhnkaaGreatDoorEngTl

namespace Go.Num
open Go.Eng Go.Shelf Go.RowKit Go.Sort Go.Proofs Go.Proofs.YtoamcgjbelhnkaaGreatDoor

theorem u63 : Tryz.prog.underlying 63 = some (.slice 34) := by kernel_rfl
theorem u64 : Tryz.prog.underlying 64 = some (.slice 25) := by kernel_rfl
theorem u54 : Tryz.prog.underlying 54 = some (.slice 63) := by kernel_rfl
theorem u55 : Tryz.prog.underlying 55 = some (.slice 64) := by kernel_rfl
theorem u52 : Tryz.prog.underlying 52 = some (.slice 53) := by kernel_rfl
theorem u53 : Tryz.prog.underlying 53 = some (.slice 9) := by kernel_rfl
theorem i34 : Tryz.prog.info? 34 = some Tryz.t34 := by kernel_rfl
theorem i34z : Tryz.t34.zero = some (.agg #[.bool false, .slice none 0 0, .bool false, .slice none 0 0]) := by kernel_rfl
theorem i34s : Tryz.t34.size = 4 := by kernel_rfl
theorem i34b : Tryz.t34.bytes = 64 := by kernel_rfl
theorem i25' : Tryz.prog.info? 25 = some Tryz.t25 := by kernel_rfl
theorem i25z : Tryz.t25.zero = some (.agg #[.bool false, .slice none 0 0, .slice none 0 0]) := by kernel_rfl
theorem i25s : Tryz.t25.size = 3 := by kernel_rfl
theorem i25b : Tryz.t25.bytes = 56 := by kernel_rfl
theorem i63 : Tryz.prog.info? 63 = some Tryz.t63 := by kernel_rfl
theorem i63z : Tryz.t63.zero = some (.slice none 0 0) := by kernel_rfl
theorem i63s : Tryz.t63.size = 1 := by kernel_rfl
theorem i63b : Tryz.t63.bytes = 24 := by kernel_rfl
theorem i64i : Tryz.prog.info? 64 = some Tryz.t64 := by kernel_rfl
theorem i64z : Tryz.t64.zero = some (.slice none 0 0) := by kernel_rfl
theorem i64s : Tryz.t64.size = 1 := by kernel_rfl
theorem i64b : Tryz.t64.bytes = 24 := by kernel_rfl

/-- Nothing but blocks of one element type is touched. -/
def Touch (ty : TypeId) (w w' : World) : Prop := w.heap.size ≤ w'.heap.size ∧ ∀ (b : Nat) (cs : Array Value) (e : TypeId) (fz : Nat × Nat), w.heap[b]? = some (Obj.cells cs e fz) → e ≠ ty → w'.heap[b]? = some (Obj.cells cs e fz)
theorem Touch.of_below {ty : TypeId} {w w' : World} (h : Below w.heap.size w w') : Touch ty w w' := ⟨h.size, fun b cs e fz q _ => by
  rw [h.block b (Array.getElem?_eq_some_iff.1 q).1]; exact q⟩
theorem Touch.trans {ty : TypeId} {w w' w'' : World} (h : Touch ty w w') (k : Touch ty w' w'') : Touch ty w w'' := ⟨Nat.le_trans h.1 k.1, fun b cs e fz q hq => k.2 b cs e fz (h.2 b cs e fz q hq) hq⟩
theorem Touch.kept {ty : TypeId} {w w' : World} (h : Touch ty w w') (hty : rs3.contains ty = false) : Go.Eng.Kept rs3 w w' := fun b cs e fz q hc => h.2 b cs e fz q (fun he => by rw [he, hty] at hc; cases hc)
theorem Touch.elem {ty e : TypeId} {w w' : World} {b : Nat} (h : Touch ty w w') (hE : Elem w b e) (hne : e ≠ ty) : Elem w' b e ∧ w'.heap[b]? = w.heap[b]? := by
  obtain ⟨cs, fz, hb⟩ := hE
  have := h.2 _ _ _ _ hb hne
  exact ⟨⟨cs, fz, this⟩, by rw [this, hb]⟩

/-- A row of items lies in memory. -/
def RowIs {β : Type} (w : World) (ty sz : Nat) (I : β → List Value → World → Prop) (v : Value) (bs : List β) : Prop :=
  (bs = [] ∧ ∃ o c, v = .slice o 0 c) ∨ ∃ (a : Addr) (cap : Nat) (xs : List (List Value)), v = .slice (some a) bs.length cap ∧ 0 < bs.length ∧ (bs.length ≤ cap ∧ bs.length ≤ 1000000000) ∧ Elem w a.block ty ∧ xs.length = bs.length ∧ (∀ r ∈ xs, r.length = sz) ∧
    (∀ (i : Nat) (row : List Value), xs[i]? = some row → ∀ (j : Nat) (x : Value), row[j]? = some x → w.cell? (a.add (i * sz + j)) = some x) ∧ (∀ (i : Nat) (row : List Value) (b : β), xs[i]? = some row → bs[i]? = some b → I b row w)
theorem RowIs.touch {β : Type} {w w' : World} {ty ty' sz : Nat} {I : β → List Value → World → Prop} {v : Value} {bs : List β} (h : RowIs w ty sz I v bs) (ht : Touch ty' w w') (hne : ty ≠ ty') (hI : ∀ b r, I b r w → I b r w') : RowIs w' ty sz I v bs := by
  rcases h with h | ⟨a, cap, xs, h1, h2, h3, h4, h5, h6, h7, h8⟩
  · exact .inl h
  · obtain ⟨hE, hb⟩ := ht.elem h4 hne
    exact .inr ⟨a, cap, xs, h1, h2, h3, hE, h5, h6, fun i row hr j x hx => (World.cell?_of_block (by rw [add_block]; exact hb)).trans (h7 i row hr j x hx), fun i row b hr hb' => hI _ _ (h8 i row b hr hb')⟩
theorem RowIs.below {β : Type} {w w' : World} {ty sz : Nat} {I : β → List Value → World → Prop} {v : Value} {bs : List β} (h : RowIs w ty sz I v bs) (hb : Below w.heap.size w w') (hI : ∀ b r, I b r w → I b r w') : RowIs w' ty sz I v bs :=
  h.touch (ty' := ty + 1) (.of_below hb) (by omega) hI
/-- A row of the call's own. -/
def OwnR {β : Type} (w : World) (base : Nat) (ty sz : Nat) (I : β → List Value → World → Prop) (v : Value) (bs : List β) : Prop :=
  ∃ xs : List (List Value), w.ownsRow base ty sz v bs.length xs.flatten ∧ xs.length = bs.length ∧ (∀ r ∈ xs, r.length = sz) ∧ (∀ (i : Nat) (row : List Value) (b : β), xs[i]? = some row → bs[i]? = some b → I b row w)
theorem flatten_at {sz : Nat} : ∀ {xs : List (List Value)} (_ : ∀ r ∈ xs, r.length = sz) {i : Nat} {row : List Value} {j : Nat} {x : Value}, xs[i]? = some row → row[j]? = some x → xs.flatten[i * sz + j]? = some x
  | [], _, i, _, _, _, h, _ => by simp at h
  | r :: t, hr, 0, row, j, x, h, hx => by
    have h : r = row := by simpa using h
    subst h
    have hj : j < r.length := (List.getElem?_eq_some_iff.1 hx).1
    rw [Nat.zero_mul, Nat.zero_add, List.flatten_cons, List.getElem?_append_left hj]
    exact hx
  | r :: t, hr, i + 1, row, j, x, h, hx => by
    have h : t[i]? = some row := by simpa using h
    have hl := hr r (by simp)
    rw [List.flatten_cons, List.getElem?_append_right (by rw [hl, Nat.add_mul]; omega), hl, show (i + 1) * sz + j - sz = i * sz + j by rw [Nat.add_mul]; omega]
    exact flatten_at (fun q hq => hr q (by simp [hq])) h hx
theorem OwnR.nil {β : Type} (w : World) (base ty sz : Nat) (I : β → List Value → World → Prop) : OwnR w base ty sz I (.slice none 0 0) [] :=
  ⟨[], World.ownsRow_nil _ _ _ _, rfl, fun r h => by simp at h, fun i row b h => by simp at h⟩
theorem OwnR.row {β : Type} {w : World} {base ty sz : Nat} {I : β → List Value → World → Prop} {v : Value} {bs : List β} (h : OwnR w base ty sz I v bs) (hn : bs.length ≤ 1000000000) : RowIs w ty sz I v bs := by
  obtain ⟨xs, h1, h2, h3, h4⟩ := h
  rcases Nat.eq_zero_or_pos bs.length with h0 | h0
  · left
    have hb : bs = [] := List.eq_nil_of_length_eq_zero h0
    refine ⟨hb, ?_⟩
    rcases h1.2 with ⟨rfl, _⟩ | ⟨g, cap, cur, rfl, _⟩
    · exact ⟨none, 0, rfl⟩
    · rw [h0]; exact ⟨_, _, rfl⟩
  · right
    rcases h1.2 with ⟨_, e⟩ | ⟨g, cap, cur, rfl, g1, g2, g3, g4, _⟩
    · omega
    · refine ⟨⟨g, 0, none⟩, cap, xs, rfl, h0, ⟨g3, hn⟩, ⟨cur, (0, 0), g2⟩, h2, h3, fun i row hr j x hx => ?_, h4⟩
      exact h1.cells rfl _ _ (flatten_at h3 hr hx)
theorem OwnR.touch {β : Type} {w w' : World} {base ty ty' sz : Nat} {I : β → List Value → World → Prop} {v : Value} {bs : List β} (h : OwnR w base ty sz I v bs) (ht : Touch ty' w w') (hne : ty ≠ ty') (hI : ∀ b r, I b r w → I b r w') : OwnR w' base ty sz I v bs := by
  obtain ⟨xs, h1, h2, h3, h4⟩ := h
  refine ⟨xs, ⟨h1.1, ?_⟩, h2, h3, fun i row b hr hb => hI _ _ (h4 i row b hr hb)⟩
  rcases h1.2 with e | ⟨g, cap, cur, e, g1, g2, g3⟩
  · exact .inl e
  · exact .inr ⟨g, cap, cur, e, g1, ht.2 _ _ _ _ g2 hne, g3⟩
theorem OwnR.below {β : Type} {w w' : World} {base ty sz : Nat} {I : β → List Value → World → Prop} {v : Value} {bs : List β} (h : OwnR w base ty sz I v bs) (hb : Below w.heap.size w w') (hI : ∀ b r, I b r w → I b r w') : OwnR w' base ty sz I v bs :=
  h.touch (ty' := ty + 1) (.of_below hb) (by omega) hI
theorem OwnR.form {β : Type} {w : World} {base ty sz : Nat} {I : β → List Value → World → Prop} {v : Value} {bs : List β} (h : OwnR w base ty sz I v bs) : ∃ o c, v = .slice o bs.length c := by
  obtain ⟨xs, h1, _⟩ := h
  rcases h1.2 with ⟨e, h0⟩ | ⟨g, cap, cur, e, _⟩
  · exact ⟨none, 0, by rw [e, h0]⟩
  · exact ⟨_, _, e⟩

/-- An item is put behind a row of the call's own. -/
theorem append_item {β : Type} {F : Fence} {n : Nat} (w wr : World) {ops : Array Oper} {rest : List Oper} {o : Oper} {a : CAct} {Q : Exit → CAct → World → Prop} {ty sz t bytes : Nat} {inf : TypeInfo} {z : Value} {I : β → List Value → World → Prop}
    (hg : o.guard = none) (s x : Operand) (hop : o.op = Op.call { callee := Callee.builtin Builtin.append, args := #[s, x], argTypes := #[t, t] })
    (e1 : Tryz.prog.underlying t = some (.slice ty)) (e2 : Tryz.prog.info? ty = some inf) (e3 : inf.zero = some z) (e4 : inf.size = sz) (e5 : inf.bytes = bytes) (e6 : z.cells.size = sz) (e7 : 0 < sz) (e8 : bytes ≤ 100)
    (v : Value) (bs : List β) (hs : a.eval s = v) (HO : OwnR wr w.heap.size ty sz I v bs) (b : β) (row : List Value) (tt : TypeId) (hx : a.eval x = .slice (some ⟨wr.heap.size, 0, none⟩) 1 1) (hrow : row.length = sz) (h1c : ∀ u ∈ row, u.oneCell' = true) (hIb : I b row wr) (hI : ∀ b r w1 w2, Touch ty w1 w2 → I b r w1 → I b r w2) (hn : bs.length < 500000000)
    (HB : Below w.heap.size w wr)
    (hK : ∀ v' w', Hid (OwnR w' w.heap.size ty sz I v' (bs ++ [b])) → Hid (Below w.heap.size w w') → Hid (Touch ty wr w') → Hid (∀ k, k < wr.heap.size → some k ≠ v.ownBlock → w'.heap[k]? = wr.heap[k]?) → wpListIn F n Tryz.prog ops Q rest (a.put o.dst v') w') :
    wpListIn F n Tryz.prog ops Q (o :: rest) a (wr.alloc (.cells row.toArray tt)) := by
  have hsz := HB.size
  obtain ⟨xs, h1, h2, h3, h4⟩ := HO
  refine wpListIn_append_own _ hg s x t hop w.heap.size ty inf z sz bytes e1 e2 e3 e4 e5 e6 e7 v bs.length xs.flatten hs (World.ownsRow.alloc h1 _) ⟨wr.heap.size, 0, none⟩ 1 1 row hx (by rw [hrow]; omega) (fun j u hu => by rw [Addr.add_lit, Nat.zero_add, World.cell?_alloc_new]; simpa using hu) h1c (by unfold maxLen; omega) (by
    have : (bs.length + 1) * bytes ≤ 500000000 * 100 := Nat.mul_le_mul (by omega) e8
    omega) (by simp; omega) ?_
  intro v' w' g1 g2 _
  have hT : Touch ty wr w' := by
    refine ⟨Nat.le_trans (by simp) g2.size, fun k cs e fz hk hne => ?_⟩
    have hlt : k < wr.heap.size := (Array.getElem?_eq_some_iff.1 hk).1
    have hal : (wr.alloc (.cells row.toArray tt)).heap[k]? = wr.heap[k]? := (alloc_below wr _).block k hlt
    rw [g2.block k (by simp; omega) (fun hk' => ?_), hal]
    · exact hk
    · rcases h1.2 with ⟨rfl, _⟩ | ⟨g, cap, cur, rfl, q1, q2, _⟩
      · cases hk'
      · have : k = g := by simpa [Value.ownBlock] using hk'
        subst this
        rw [q2] at hk
        injection hk with hk
        injection hk with _ hk _
        exact hne hk.symm
  refine hK v' w' ⟨xs ++ [row], ?_, by simp [h2], fun r hr => ?_, fun i r b' hr hb' => ?_⟩ ?_ hT ?_
  · rw [List.flatten_append, List.length_append]
    simpa using g1
  · rcases List.mem_append.1 hr with h | h
    · exact h3 r h
    · rw [List.mem_singleton.1 h, hrow]
  · rcases Nat.lt_or_ge i bs.length with hi | hi
    · rw [List.getElem?_append_left (by omega)] at hr hb'
      exact hI _ _ _ _ hT (h4 i r b' hr hb')
    · rw [List.getElem?_append_right (by omega)] at hr hb'
      rw [h2] at hr
      rcases Nat.eq_zero_or_pos (i - bs.length) with h0 | h0
      · rw [h0] at hr hb'
        have hr : row = r := by simpa using hr
        have hb' : b = b' := by simpa using hb'
        rw [← hr, ← hb']
        exact hI _ _ _ _ hT hIb
      · rw [List.getElem?_eq_none (by simp; omega)] at hr
        cases hr
  · exact (HB.alloc hsz _).grown g2 (by simp; omega) fun k hk => own_base h1 hk
  · intro k hk hne
    rw [g2.block k (by simp; omega) hne, (alloc_below wr _).block k hk]
theorem OwnR.lt {β : Type} {w : World} {base ty sz : Nat} {I : β → List Value → World → Prop} {v : Value} {bs : List β} (h : OwnR w base ty sz I v bs) {k : Nat} (hk : v.ownBlock = some k) : k < w.heap.size := by
  obtain ⟨xs, h1, _⟩ := h
  exact (h1.lt k hk).2
end Go.Num

namespace Go.Num
open Go.Eng Go.Shelf Go.RowKit Go.Sort Go.Proofs Go.Proofs.YtoamcgjbelhnkaaGreatDoor

def IQ (q : Rat) (r : List Value) (w : World) : Prop := QAt w (.agg r.toArray) q
def IR (q : Rat) (r : List Value) (w : World) : Prop := RatAt w (.agg r.toArray) q
theorem IQ.touch {ty : TypeId} {w w' : World} (ht : Touch ty w w') (hty : rs3.contains ty = false) : ∀ q r, IQ q r w → IQ q r w' := fun _ _ h => QAt.kept h (ht.kept hty)
theorem IR.touch {ty : TypeId} {w w' : World} (ht : Touch ty w w') (hty : rs3.contains ty = false) : ∀ q r, IR q r w → IR q r w' := fun _ _ h => RatAt.kept h (ht.kept hty)
theorem IQ.below {w w' : World} (h : Below w.heap.size w w') : ∀ q r, IQ q r w → IQ q r w' := fun _ _ k => QAt.below k h
theorem IR.below {w w' : World} (h : Below w.heap.size w w') : ∀ q r, IR q r w → IR q r w' := fun _ _ k => RatAt.below k h
abbrev RowQ (w : World) (v : Value) (qs : List Rat) : Prop := RowIs w 34 4 IQ v qs
abbrev RowR (w : World) (v : Value) (qs : List Rat) : Prop := RowIs w 25 3 IR v qs
def IRowQ (qs : List Rat) (r : List Value) (w : World) : Prop := ∃ v, r = [v] ∧ RowQ w v qs
def IRowR (qs : List Rat) (r : List Value) (w : World) : Prop := ∃ v, r = [v] ∧ RowR w v qs
theorem IRowQ.touch {ty : TypeId} {w w' : World} (ht : Touch ty w w') (hty : rs3.contains ty = false) (hne : 34 ≠ ty) : ∀ q r, IRowQ q r w → IRowQ q r w' := fun _ _ ⟨v, e, h⟩ => ⟨v, e, h.touch ht hne (IQ.touch ht hty)⟩
theorem IRowR.touch {ty : TypeId} {w w' : World} (ht : Touch ty w w') (hty : rs3.contains ty = false) (hne : 25 ≠ ty) : ∀ q r, IRowR q r w → IRowR q r w' := fun _ _ ⟨v, e, h⟩ => ⟨v, e, h.touch ht hne (IR.touch ht hty)⟩
theorem IRowQ.below {w w' : World} (h : Below w.heap.size w w') : ∀ q r, IRowQ q r w → IRowQ q r w' := fun _ _ ⟨v, e, k⟩ => ⟨v, e, RowIs.below k h (IQ.below h)⟩
theorem IRowR.below {w w' : World} (h : Below w.heap.size w w') : ∀ q r, IRowR q r w → IRowR q r w' := fun _ _ ⟨v, e, k⟩ => ⟨v, e, RowIs.below k h (IR.below h)⟩
abbrev MatQ (w : World) (v : Value) (m : List (List Rat)) : Prop := RowIs w 63 1 IRowQ v m
abbrev MatR (w : World) (v : Value) (m : List (List Rat)) : Prop := RowIs w 64 1 IRowR v m

/-- What can be read. -/
def ReadAt (w : World) (v : Value) (n : Nat) (f : Nat → Value) : Prop := ∃ o c, v = .slice o n c ∧ n ≤ 9223372036854775807 ∧ (0 < n → ∃ a : Addr, o = some a ∧ a.block < w.heap.size ∧ ∀ i, i < n → w.cell? (a.add i) = some (f i))
theorem ReadAt.below {w w' : World} {v : Value} {n : Nat} {f : Nat → Value} (h : ReadAt w v n f) (hb : Below w.heap.size w w') : ReadAt w' v n f := by
  obtain ⟨o, c, e, hn, h1⟩ := h
  refine ⟨o, c, e, hn, fun h0 => ?_⟩
  obtain ⟨a, e2, ha, hc⟩ := h1 h0
  exact ⟨a, e2, Nat.lt_of_lt_of_le ha hb.size, fun i hi => (hb.cell (p := a.add i) (by rw [add_block]; exact ha)).trans (hc i hi)⟩
structure TabAt (w : World) (v : Value) (n : Nat) (rv : Nat → Value) (m : Nat → Nat) (s : Nat → Nat → ByteArray) : Prop where
  top : ReadAt w v n rv
  row : ∀ i, i < n → ReadAt w (rv i) (m i) fun j => .string (s i j)
  len : ∀ i j, i < n → j < m i → (s i j).size ≤ 9223372036854775807
theorem TabAt.below {w w' : World} {v : Value} {n : Nat} {rv : Nat → Value} {m : Nat → Nat} {s : Nat → Nat → ByteArray} (h : TabAt w v n rv m s) (hb : Below w.heap.size w w') : TabAt w' v n rv m s :=
  ⟨h.top.below hb, fun i hi => (h.row i hi).below hb, h.len⟩
def rowOf (s : Nat → ByteArray) (k : Nat) : List Rat := (List.range k).map fun j => rq (s j).data.toList 50
def matOf (m : Nat → Nat) (s : Nat → Nat → ByteArray) (most k : Nat) : List (List Rat) := (List.range k).map fun i => rowOf (s i) (min (m i) most)
theorem rowOf_succ (s : Nat → ByteArray) (k : Nat) : rowOf s (k + 1) = rowOf s k ++ [rq (s k).data.toList 50] := by simp [rowOf, List.range_succ]
theorem matOf_succ (m : Nat → Nat) (s : Nat → Nat → ByteArray) (most k : Nat) : matOf m s most (k + 1) = matOf m s most k ++ [rowOf (s k) (min (m k) most)] := by simp [matOf, List.range_succ]
theorem rowOf_len (s : Nat → ByteArray) (k : Nat) : (rowOf s k).length = k := by simp [rowOf]
theorem matOf_len (m : Nat → Nat) (s : Nat → Nat → ByteArray) (most k : Nat) : (matOf m s most k).length = k := by simp [matOf]

set_option maxRecDepth 100000 in
set_option maxHeartbeats 8000000 in
/-- **'matrix'.** -/
theorem matrix_calls (w : World) (v : Value) (n : Nat) (rv : Nat → Value) (m : Nat → Nat) (s : Nat → Nat → ByteArray) (most : Nat) (h : TabAt w v n rv m s) (hm : most ≤ 100) (hL : Laid w) :
    CallsIn Fence.wide 0 Tryz.prog 25 #[v, .int .i64 (most : Int)] w fun e w' => ∃ v1 v2, e = .returned (.tuple #[v1, v2]) ∧ MatQ w' v1 (matOf m s most (min n most)) ∧ MatR w' v2 (matOf m s most (min n most)) ∧ Below w.heap.size w w' := by
  have HT := Hid.intro h
  have HL := Hid.intro hL
  obtain ⟨o, c, rfl, hn9, _⟩ := h.top
  clear h hL
  refine callsIn_of_wp Tryz.func25 rfl trivial ?_ rfl
  simp only [Tryz.ntmps25, List.size_toArray, List.length_cons, List.length_nil, Nat.reduceAdd, Nat.reduceSub, Array.replicate_succ, Array.replicate_zero, List.push_toArray, List.append_toArray, List.nil_append, List.cons_append]
  gi_wp2
  gi_loopw [6, 7, 8] (fun x6 x7 x8 wr => ∃ i : Nat, x8 = .int .i64 (i : Int) ∧ i ≤ n ∧ i ≤ most ∧ Hid (OwnR wr w.heap.size 63 1 IRowQ x6 (matOf m s most i)) ∧ Hid (OwnR wr w.heap.size 64 1 IRowR x7 (matOf m s most i)) ∧ Hid (Below w.heap.size w wr)) (fun _ _ x _ => most - (intOf x).toNat)
  case atStart => exact ⟨0, rfl, by omega, by omega, OwnR.nil _ _ _ _ _, OwnR.nil _ _ _ _ _, Below.refl _ w⟩
  case round =>
    obtain ⟨ws, hws⟩ : ∃ ws, ws = wr := ⟨_, rfl⟩
    subst hws
    obtain ⟨i, rfl, hin, him, HO6, HO7, HBr⟩ := hrel
    by_cases hi1 : i < n
    · by_cases hi2 : i < most
      · obtain ⟨o', c', e', _, htop⟩ := HT.out.top
        injection e' with e1 e2 e3
        subst e1
        obtain ⟨a, rfl, ha, hca⟩ := htop (by omega)
        obtain ⟨oi, ci, hri, hmi9, hrow⟩ := HT.out.row i hi1
        have p0 := hca i hi1
        rw [hri] at p0
        have HP0 : Hid (∀ w', Below w.heap.size w w' → w'.cell? (a.add i) = some (.slice oi (m i) ci)) := Hid.intro (fun w' hb => (hb.cell (p := a.add i) (by rw [add_block]; exact ha)).trans p0)
        obtain ⟨mi, hmi⟩ : ∃ mi, m i = mi := ⟨_, rfl⟩
        have HMI := Hid.intro hmi
        have HRow := Hid.intro hrow
        rw [hmi] at HP0 hmi9
        clear e2 e3 htop hca p0 hri hrow hmi
        gi_wp2
        have HO9 : Hid (OwnR ws ws.heap.size 34 4 IQ (.slice none 0 0) (rowOf (s i) 0)) := OwnR.nil _ _ _ _ _
        have HO10 : Hid (OwnR ws ws.heap.size 25 3 IR (.slice none 0 0) (rowOf (s i) 0)) := OwnR.nil _ _ _ _ _
        have HBi : Hid (Below ws.heap.size ws ws) := Below.refl _ ws
        gi_loopw [9, 10, 11] (fun x9 x10 x11 wi => ∃ j : Nat, x11 = .int .i64 (j : Int) ∧ j ≤ mi ∧ j ≤ most ∧ Hid (OwnR wi ws.heap.size 34 4 IQ x9 (rowOf (s i) j)) ∧ Hid (OwnR wi ws.heap.size 25 3 IR x10 (rowOf (s i) j)) ∧ Hid (Below ws.heap.size ws wi)) (fun _ _ x _ => most - (intOf x).toNat)
        case atStart => exact ⟨0, rfl, by omega, by omega, HO9.out, HO10.out, HBi.out⟩
        case round =>
          obtain ⟨j, rfl, hjm, hjmost, HO9', HO10', HBi'⟩ := hrel
          clear HO9 HO10 HBi
          have HBw := Hid.intro (HBr.out.trans (HBi'.out.mono HBr.out.size))
          have p0 := HP0.out wr HBw.out
          by_cases hj1 : j < mi
          · by_cases hj2 : j < most
            · obtain ⟨ai, rfl, hai, hcai⟩ := HRow.out (by rw [HMI.out]; omega)
              have p1 := (HBw.out.cell (p := ai.add j) (by rw [add_block]; exact hai)).trans (hcai j (by rw [HMI.out]; exact hj1))
              obtain ⟨sj, hsj⟩ : ∃ sj, s i j = sj := ⟨_, rfl⟩
              have HSJ := Hid.intro hsj
              have hsl := HT.out.len i j hi1 (by rw [HMI.out]; exact hj1)
              rw [hsj] at p1 hsl
              clear hcai hsj
              gi_wp2_with (gi_at_call 30; refine stop ?_)
              unfold Stop
              refine (read_calls wr sj _ rfl hsl 50 (by decide)).mono ?_
              rintro e w2 ⟨vq, rfl, hq, hB⟩
              have HQ := Hid.intro hq
              obtain ⟨m1, m2, rfl, hm1, hm2⟩ := hq
              obtain ⟨o1, k1, c1, rfl, _, _⟩ := natI_len hm1
              obtain ⟨o2, k2, c2, rfl, _, _⟩ := natI_len hm2
              obtain ⟨q, hqq⟩ : ∃ q, rq sj.data.toList 50 = q := ⟨_, rfl⟩
              have HQQ : Hid (rq (s i j).data.toList 50 = q) := Hid.intro (by rw [HSJ.out]; exact hqq)
              have HKq : Hid (Kept1 q = true) := Hid.intro (by rw [← hqq]; exact rq_kept _ _)
              rw [hqq] at HQ
              rw [hqq]
              obtain ⟨sg, hsg⟩ : ∃ sg, decide (q.num < 0) = sg := ⟨_, rfl⟩
              rw [hsg] at HQ
              rw [hsg]
              obtain ⟨W3, hW3⟩ : ∃ W, W = w2.alloc (.cells #[.bool sg, .slice o1 k1 c1, .bool false, .slice o2 k2 c2] 34) := ⟨_, rfl⟩
              have hB3 : Below w2.heap.size w2 W3 := by rw [hW3]; exact alloc_below _ _
              have HBox : Hid (BoxL W3 w2.heap.size [.bool sg, .slice o1 k1 c1, .bool false, .slice o2 k2 c2]) := Hid.intro (by rw [hW3]; exact boxL_new _ _ _)
              have hBw3 := hB.trans (hB3.mono hB.size)
              have HBi3 := Hid.intro (HBi'.out.trans (hBw3.mono HBi'.out.size))
              have H9 := Hid.intro (HO9'.out.below hBw3 (IQ.below hBw3))
              have H10 := Hid.intro (HO10'.out.below hBw3 (IR.below hBw3))
              have h9lt : ∀ k, u9.ownBlock = some k → k < w2.heap.size := fun k hk => Nat.lt_of_lt_of_le (HO9'.out.lt hk) hB.size
              have H9L := Hid.intro h9lt
              have HQ3 := Hid.intro (HQ.out.below hB3)
              have HBw3 := Hid.intro (HBw.out.trans (hBw3.mono HBw.out.size))
              have HW3s : Hid (W3.heap.size = w2.heap.size + 1) := Hid.intro (by rw [hW3]; simp)
              have d0 := HBox.out.2 0 _ rfl
              have d1 := HBox.out.2 1 _ rfl
              have d2 := HBox.out.2 2 _ rfl
              have d3 := HBox.out.2 3 _ rfl
              obtain ⟨o9, c9, h9f⟩ := HO9'.out.form
              rw [rowOf_len] at h9f
              rw [hW3] at d0 d1 d2 d3
              clear hm1 hm2 hB hB3 hBw3 h9lt hqq hsg p0 p1
              gi_wp2_with (gi_at_builtin; refine stop ?_)
              unfold Stop
              rw [← hW3]
              obtain ⟨g12, hg12⟩ : ∃ g12, w2.heap.size = g12 := ⟨_, rfl⟩
              rw [hg12] at HBox H9L HW3s
              rw [hg12]
              clear hW3 hg12 d0 d1 d2 d3
              rw [h9f] at H9 H9L
              refine append_item (ty := 34) (sz := 4) (bytes := 64) ws W3 rfl _ _ rfl Go.Num.u63 i34 i34z i34s i34b rfl (by decide) (by decide) (.slice o9 j c9) (rowOf (s i) j) rfl H9.out q [.bool sg, .slice o1 k1 c1, .bool false, .slice o2 k2 c2] _ (by rw [HW3s.out]; rfl) rfl (by simp [Value.oneCell']) HQ3.out (fun b r w1 w2 ht => IQ.touch ht rfl b r) (by rw [rowOf_len]; omega) HBi3.out ?_
              intro v9 w4 HO9n HBi4 HT4 HBlk
              have hrs : rowOf (s i) j ++ [q] = rowOf (s i) (j + 1) := by rw [rowOf_succ, HQQ.out]
              rw [hrs] at HO9n
              have hboxb : w4.heap[g12]? = W3.heap[g12]? := HBlk.out g12 HBox.out.1 (fun e => by have := H9L.out g12 e.symm; omega)
              have HBox4 : Hid (BoxL w4 g12 [.bool sg, .slice o1 k1 c1, .bool false, .slice o2 k2 c2]) := Hid.intro ⟨Nat.lt_of_lt_of_le HBox.out.1 HT4.out.1, fun x v hx => (World.cell?_of_block hboxb).trans (HBox.out.2 x v hx)⟩
              have H10b := Hid.intro (H10.out.touch HT4.out (by decide) (IR.touch HT4.out rfl))
              have HQ4 := Hid.intro (IQ.touch HT4.out rfl _ _ HQ3.out)
              have HBw4 := Hid.intro (HBr.out.trans (HBi4.out.mono HBr.out.size))
              obtain ⟨o10, c10, h10f⟩ := H10b.out.form
              obtain ⟨on, cn, h9n⟩ := HO9n.out.form
              rw [rowOf_len] at h10f h9n
              have d0 := HBox4.out.2 0 _ rfl
              have d1 := HBox4.out.2 1 _ rfl
              have d2 := HBox4.out.2 2 _ rfl
              have d3 := HBox4.out.2 3 _ rfl
              clear hboxb h9f hrs
              gi_wp2_with (gi_at_call 31; refine stop ?_)
              unfold Stop
              refine (rat_calls w4 _ q HQ4.out HKq.out (HL.out.below HBw4.out)).mono ?_
              rintro e w5 ⟨vr, rfl, hr, hB⟩
              have HR := Hid.intro hr
              obtain ⟨o5, k5, c5, o6, k6, c6, rfl⟩ := hr.form
              obtain ⟨sr, hsr⟩ : ∃ sr, decide (q.num < 0) = sr := ⟨_, rfl⟩
              rw [hsr] at HR
              rw [hsr]
              have HBi5 := Hid.intro (HBi4.out.trans (hB.mono HBi4.out.size))
              have H10c := Hid.intro (H10b.out.below hB (IR.below hB))
              have H9c := Hid.intro (HO9n.out.below hB (IQ.below hB))
              rw [h10f] at H10c
              clear hr hB d0 d1 d2 d3 hsr
              gi_wp2_with (gi_at_builtin; refine stop ?_)
              unfold Stop
              refine append_item (ty := 25) (sz := 3) (bytes := 56) ws w5 rfl _ _ rfl Go.Num.u64 i25' i25z i25s i25b rfl (by decide) (by decide) (.slice o10 j c10) (rowOf (s i) j) rfl H10c.out q [.bool sr, .slice o5 k5 c5, .slice o6 k6 c6] _ rfl rfl (by simp [Value.oneCell']) HR.out (fun b r w1 w2 ht => IR.touch ht rfl b r) (by rw [rowOf_len]; omega) HBi5.out ?_
              intro v10 w6 HO10n HBi6 HT6 _
              have hrs : rowOf (s i) j ++ [q] = rowOf (s i) (j + 1) := by rw [rowOf_succ, HQQ.out]
              rw [hrs] at HO10n
              have H9d := Hid.intro (H9c.out.touch HT6.out (by decide) (IQ.touch HT6.out rfl))
              clear hrs h10f
              gi_wp2
              exact ⟨⟨j + 1, by go_num, by omega, by omega, by rw [h9n] at H9d; exact H9d, HO10n, HBi6⟩, by simp only [intOf]; omega⟩
            · have hjm2 : j = most := by omega
              have hmin : min mi most = j := by omega
              have hjx : decide ((j : Int) < (most : Int)) = false := decide_eq_false (by omega)
              have hj9 : j ≤ 100 := by omega
              have HMN : Hid (rowOf (s i) (min (m i) most) = rowOf (s i) j) := Hid.intro (by rw [HMI.out, hmin])
              obtain ⟨o9, c9, h9f⟩ := HO9'.out.form
              obtain ⟨o10, c10, h10f⟩ := HO10'.out.form
              obtain ⟨o6, c6, h6f⟩ := HO6.out.form
              obtain ⟨o7, c7, h7f⟩ := HO7.out.form
              rw [rowOf_len] at h9f h10f
              rw [matOf_len] at h6f h7f
              subst h9f; subst h10f; subst h6f; subst h7f
              have H6 := Hid.intro (HO6.out.below HBi'.out (IRowQ.below HBi'.out))
              have H7 := Hid.intro (HO7.out.below HBi'.out (IRowR.below HBi'.out))
              clear hjm2 hmin hjx
              gi_wp2_with (first | (exfalso; exact undef_no (by assumption)) | (gi_at_builtin; refine stop ?_))
              unfold Stop
              refine append_item (ty := 63) (sz := 1) (bytes := 24) w wr rfl _ _ rfl Go.Num.u54 i63 i63z i63s i63b rfl (by decide) (by decide) (.slice o6 i c6) (matOf m s most i) rfl H6.out (rowOf (s i) j) [.slice o9 j c9] _ rfl rfl (by simp [Value.oneCell']) ⟨_, rfl, HO9'.out.row (by rw [rowOf_len]; omega)⟩ (fun b r w1 w2 ht => IRowQ.touch ht rfl (by decide) b r) (by rw [matOf_len]; omega) HBw.out ?_
              intro v6 w4 HO6n HBw4 HT4 _
              have hms : matOf m s most i ++ [rowOf (s i) j] = matOf m s most (i + 1) := by rw [matOf_succ, HMN.out]
              rw [hms] at HO6n
              have H7b := Hid.intro (H7.out.touch HT4.out (by decide) (IRowR.touch HT4.out rfl (by decide)))
              have H10b := Hid.intro ((HO10'.out.row (by rw [rowOf_len]; omega)).touch HT4.out (by decide) (IR.touch HT4.out rfl))
              clear hms
              gi_wp2_with (gi_at_builtin; refine stop ?_)
              unfold Stop
              refine append_item (ty := 64) (sz := 1) (bytes := 24) w w4 rfl _ _ rfl Go.Num.u55 i64i i64z i64s i64b rfl (by decide) (by decide) (.slice o7 i c7) (matOf m s most i) rfl H7b.out (rowOf (s i) j) [.slice o10 j c10] _ rfl rfl (by simp [Value.oneCell']) ⟨_, rfl, H10b.out⟩ (fun b r w1 w2 ht => IRowR.touch ht rfl (by decide) b r) (by rw [matOf_len]; omega) HBw4.out ?_
              intro v7 w5 HO7n HBw5 HT5 _
              have hms : matOf m s most i ++ [rowOf (s i) j] = matOf m s most (i + 1) := by rw [matOf_succ, HMN.out]
              rw [hms] at HO7n
              have H6c := Hid.intro (HO6n.out.touch HT5.out (by decide) (IRowQ.touch HT5.out rfl (by decide)))
              clear hms
              gi_wp2
              exact ⟨⟨i + 1, by go_num, by omega, by omega, H6c, HO7n, HBw5⟩, by simp only [intOf]; omega⟩
          · have hjm2 : j = mi := by omega
            have hmin : min mi most = j := by omega
            subst hjm2
            have HMN : Hid (rowOf (s i) (min (m i) most) = rowOf (s i) j) := Hid.intro (by rw [HMI.out, hmin])
            obtain ⟨o9, c9, h9f⟩ := HO9'.out.form
            obtain ⟨o10, c10, h10f⟩ := HO10'.out.form
            obtain ⟨o6, c6, h6f⟩ := HO6.out.form
            obtain ⟨o7, c7, h7f⟩ := HO7.out.form
            rw [rowOf_len] at h9f h10f
            rw [matOf_len] at h6f h7f
            subst h9f; subst h10f; subst h6f; subst h7f
            have H6 := Hid.intro (HO6.out.below HBi'.out (IRowQ.below HBi'.out))
            have H7 := Hid.intro (HO7.out.below HBi'.out (IRowR.below HBi'.out))
            have hj9 : j ≤ 100 := by omega
            gi_wp2_with (first | (exfalso; exact undef_no (by assumption)) | (gi_at_builtin; refine stop ?_))
            unfold Stop
            refine append_item (ty := 63) (sz := 1) (bytes := 24) w wr rfl _ _ rfl Go.Num.u54 i63 i63z i63s i63b rfl (by decide) (by decide) (.slice o6 i c6) (matOf m s most i) rfl H6.out (rowOf (s i) j) [.slice o9 j c9] _ rfl rfl (by simp [Value.oneCell']) ⟨_, rfl, HO9'.out.row (by rw [rowOf_len]; omega)⟩ (fun b r w1 w2 ht => IRowQ.touch ht rfl (by decide) b r) (by rw [matOf_len]; omega) HBw.out ?_
            intro v6 w4 HO6n HBw4 HT4 _
            have hms : matOf m s most i ++ [rowOf (s i) j] = matOf m s most (i + 1) := by rw [matOf_succ, HMN.out]
            rw [hms] at HO6n
            have H7b := Hid.intro (H7.out.touch HT4.out (by decide) (IRowR.touch HT4.out rfl (by decide)))
            have H10b := Hid.intro ((HO10'.out.row (by rw [rowOf_len]; omega)).touch HT4.out (by decide) (IR.touch HT4.out rfl))
            clear hms
            gi_wp2_with (gi_at_builtin; refine stop ?_)
            unfold Stop
            refine append_item (ty := 64) (sz := 1) (bytes := 24) w w4 rfl _ _ rfl Go.Num.u55 i64i i64z i64s i64b rfl (by decide) (by decide) (.slice o7 i c7) (matOf m s most i) rfl H7b.out (rowOf (s i) j) [.slice o10 j c10] _ rfl rfl (by simp [Value.oneCell']) ⟨_, rfl, H10b.out⟩ (fun b r w1 w2 ht => IRowR.touch ht rfl (by decide) b r) (by rw [matOf_len]; omega) HBw4.out ?_
            intro v7 w5 HO7n HBw5 HT5 _
            have hms : matOf m s most i ++ [rowOf (s i) j] = matOf m s most (i + 1) := by rw [matOf_succ, HMN.out]
            rw [hms] at HO7n
            have H6c := Hid.intro (HO6n.out.touch HT5.out (by decide) (IRowQ.touch HT5.out rfl (by decide)))
            clear hms
            gi_wp2
            exact ⟨⟨i + 1, by go_num, by omega, by omega, H6c, HO7n, HBw5⟩, by simp only [intOf]; omega⟩
      · have him2 : min n most = i := by omega
        have HMM : Hid (matOf m s most (min n most) = matOf m s most i) := Hid.intro (by rw [him2])
        gi_wp2_with (exfalso; exact undef_no (by assumption))
        all_goals (first | go_returns | go_ret | go_end0)
        exact ⟨_, _, rfl, by rw [HMM.out]; exact HO6.out.row (by rw [matOf_len]; omega), by rw [HMM.out]; exact HO7.out.row (by rw [matOf_len]; omega), HBr.out⟩
    · have him2 : min n most = i := by omega
      have HMM : Hid (matOf m s most (min n most) = matOf m s most i) := Hid.intro (by rw [him2])
      gi_wp2_with (exfalso; exact undef_no (by assumption))
      all_goals (first | go_returns | go_ret | go_end0)
      exact ⟨_, _, rfl, by rw [HMM.out]; exact HO6.out.row (by rw [matOf_len]; omega), by rw [HMM.out]; exact HO7.out.row (by rw [matOf_len]; omega), HBr.out⟩
end Go.Num

namespace Go.Num
open Go.Eng Go.Shelf Go.RowKit Go.Sort Go.Proofs Go.Proofs.YtoamcgjbelhnkaaGreatDoor

/-- What a row of slices shows. -/
theorem RowIs.view {β : Type} {w : World} {ty : Nat} {J : World → Value → β → Prop} {v : Value} {m : List β} (h : RowIs w ty 1 (fun b r w => ∃ v, r = [v] ∧ J w v b) v m) :
    ∃ o c, v = .slice o m.length c ∧ m.length ≤ 1000000000 ∧ ∃ rv : Nat → Value, (0 < m.length → ∃ a : Addr, o = some a ∧ a.block < w.heap.size ∧ ∀ i, i < m.length → w.cell? (a.add i) = some (rv i)) ∧ ∀ i b, m[i]? = some b → J w (rv i) b := by
  rcases h with ⟨rfl, o, c, rfl⟩ | ⟨a, cap, xs, rfl, h2, h3, h4, h5, h6, h7, h8⟩
  · exact ⟨o, c, rfl, by simp, fun _ => .nilFunc, fun h => absurd h (by simp), fun i b hb => by simp at hb⟩
  · refine ⟨some a, cap, rfl, h3.2, fun i => (xs.getD i []).getD 0 .nilFunc, fun _ => ⟨a, rfl, h4.lt, fun i hi => ?_⟩, fun i b hb => ?_⟩
    · obtain ⟨row, hr⟩ : ∃ row, xs[i]? = some row := ⟨_, List.getElem?_eq_getElem (by omega)⟩
      have hl := h6 row (List.mem_of_getElem? hr)
      obtain ⟨x, rfl⟩ : ∃ x, row = [x] := by
        match row, hl with
        | [x], _ => exact ⟨x, rfl⟩
      have := h7 i _ hr 0 x rfl
      rw [Nat.mul_one, Nat.add_zero] at this
      rw [this]
      show some x = some ((xs.getD i []).getD 0 .nilFunc)
      rw [List.getD_eq_getElem?_getD (l := xs), hr]
      rfl
    · have hi : i < m.length := (List.getElem?_eq_some_iff.1 hb).1
      obtain ⟨row, hr⟩ : ∃ row, xs[i]? = some row := ⟨_, List.getElem?_eq_getElem (by omega)⟩
      obtain ⟨x, rfl, hJ⟩ := h8 i row b hr hb
      show J w ((xs.getD i []).getD 0 .nilFunc) b
      rw [List.getD_eq_getElem?_getD (l := xs), hr]
      exact hJ
theorem RowIs.form {β : Type} {w : World} {ty sz : Nat} {I : β → List Value → World → Prop} {v : Value} {bs : List β} (h : RowIs w ty sz I v bs) : ∃ o c, v = .slice o bs.length c ∧ bs.length ≤ 1000000000 := by
  rcases h with ⟨rfl, o, c, rfl⟩ | ⟨a, cap, xs, rfl, _, h3, _⟩
  · exact ⟨o, c, rfl, by simp⟩
  · exact ⟨_, _, rfl, h3.2⟩

set_option maxRecDepth 100000 in
set_option maxHeartbeats 8000000 in
/-- **'isLong'.** -/
theorem isLong_calls (w : World) (v : Value) (q : Rat) (h : RatAt w v q) (hq : RatLe q 100000) (htab : Pow10 w) :
    CallsIn Fence.wide 0 Tryz.prog 124 #[v] w fun e w' => e = .returned (.bool (!SmallQ q 20)) ∧ Below w.heap.size w w' := by
  obtain ⟨vn, vd, rfl, hn, hd⟩ := h
  have HN := Hid.intro hn
  have HD := Hid.intro hd
  obtain ⟨sg, hsg⟩ : ∃ sg, decide (q.num < 0) = sg := ⟨_, rfl⟩
  obtain ⟨o1, k1, c1, rfl, _, _⟩ := mag_len hn
  obtain ⟨o2, k2, c2, rfl, _, _⟩ := mag_len hd
  rw [hsg]
  obtain ⟨W1, hW1⟩ : ∃ W, W = w.alloc (.cells #[.bool sg, .slice o1 k1 c1, .slice o2 k2 c2] 25) := ⟨_, rfl⟩
  have HX : Hid (Box3 W1 w.heap.size (.bool sg) (.slice o1 k1 c1) (.slice o2 k2 c2)) := Hid.intro (by rw [hW1]; exact box3_new _ _ _ _ _)
  have HBW : Hid (Below w.heap.size w W1) := Hid.intro (by rw [hW1]; exact alloc_below _ _)
  have HP := Hid.intro hq
  have HTab := Hid.intro htab
  have y0 := HX.out.c0
  have y1 := HX.out.c1
  have y2 := HX.out.c2
  clear hn hd hsg hq htab
  refine callsIn_of_wp Tryz.func124 rfl trivial ?_ rfl
  simp only [Tryz.ntmps124, List.size_toArray, List.length_cons, List.length_nil, Nat.reduceAdd, Nat.reduceSub, Array.replicate_succ, Array.replicate_zero, List.push_toArray, List.append_toArray, List.nil_append, List.cons_append]
  rw [hW1] at y0 y1 y2
  gi_wp2_with (gi_at_call 71; refine stop ?_)
  unfold Stop
  rw [← hW1] at y0 y1 y2 ⊢
  obtain ⟨g, hg⟩ : ∃ g, w.heap.size = g := ⟨_, rfl⟩
  rw [hg] at HX y0 y1 y2
  rw [hg]
  clear hW1 hg
  refine (mString_calls W1 _ _ (HN.out.below HBW.out) HP.out.1 (HTab.out.below HBW.out)).mono ?_
  rintro e w2 ⟨rfl, hB⟩
  replace HX := Hid.intro (HX.out.below hB)
  replace HBW := Hid.intro (HBW.out.trans (hB.mono HBW.out.size))
  replace y0 := HX.out.c0
  replace y1 := HX.out.c1
  replace y2 := HX.out.c2
  obtain ⟨S, hS⟩ : ∃ S : ByteArray, (⟨(Lib.decDigits q.num.natAbs).toArray⟩ : ByteArray) = S := ⟨_, rfl⟩
  have hsz : S.size = Lib.nDigits q.num.natAbs := by rw [← hS, bytes_size, Lib.decDigits_length]
  rw [hS]
  obtain ⟨d, hd⟩ : ∃ d, Lib.nDigits q.num.natAbs = d := ⟨_, rfl⟩
  have HDd := Hid.intro hd
  rw [hd] at hsz
  clear hB hS hd
  by_cases hd20 : 20 < d
  · have hdd : decide ((d : Int) > 20) = true := decide_eq_true (by omega)
    have HS : Hid (SmallQ q 20 = false) := Hid.intro (by unfold SmallQ; rw [HDd.out, decide_eq_false (by omega)]; rfl)
    gi_wp2_with (exfalso; exact undef_no (by assumption))
    all_goals (first | go_returns | go_ret | go_end0)
    exact ⟨by rw [HS.out]; rfl, HBW.out⟩
  · have hdd : decide ((d : Int) > 20) = false := decide_eq_false (by omega)
    gi_wp2_with (gi_at_call 71; refine stop ?_)
    unfold Stop
    refine (mString_calls w2 _ _ (HD.out.below HBW.out) (by split; exact pow_pos' 100000; exact HP.out.2) (HTab.out.below HBW.out)).mono ?_
    rintro e w3 ⟨rfl, hB⟩
    replace HBW := Hid.intro (HBW.out.trans (hB.mono HBW.out.size))
    obtain ⟨S2, hS2⟩ : ∃ S : ByteArray, (⟨(Lib.decDigits (if q.den = 1 then 0 else q.den)).toArray⟩ : ByteArray) = S := ⟨_, rfl⟩
    have hsz2 : S2.size = Lib.nDigits (if q.den = 1 then 0 else q.den) := by rw [← hS2, bytes_size, Lib.decDigits_length]
    rw [hS2]
    have hde : Lib.nDigits (if q.den = 1 then 0 else q.den) = Lib.nDigits q.den := by
      split
      · rename_i h1; rw [h1, Lib.nDigits_small (show 0 < 10 by decide), Lib.nDigits_small (show 1 < 10 by decide)]
      · rfl
    rw [hde] at hsz2
    obtain ⟨d2, hd2⟩ : ∃ d2, Lib.nDigits q.den = d2 := ⟨_, rfl⟩
    have HS : Hid ((!SmallQ q 20) = decide (20 < d2)) := Hid.intro (by
      unfold SmallQ
      rw [HDd.out, hd2, decide_eq_true (by omega), Bool.true_and]
      by_cases h : d2 ≤ 20
      · rw [decide_eq_true h, decide_eq_false (by omega)]; rfl
      · rw [decide_eq_false h, decide_eq_true (by omega)]; rfl)
    rw [hd2] at hsz2
    clear hB hS2 hde hd2 y0 y1 y2
    gi_wp2
    all_goals (first | go_returns | go_ret | go_end0)
    refine ⟨?_, HBW.out⟩
    rw [HS.out]
    show Ending.returned (Value.bool (decide ((20 : Int) < (d2 : Int)))) = _
    rw [show decide ((20 : Int) < (d2 : Int)) = decide (20 < d2) from decide_eq_decide.2 (by omega)]

theorem add_add_k (a : Addr) (i k : Nat) (hk : 0 < k) : (⟨(a.add i).block, (a.add i).off + k, none⟩ : Addr) = a.add (i + k) := by
  unfold Addr.add
  split <;> simp_all <;> omega
/-- A fraction of a row. -/
theorem RowIs.item {w : World} {a : Addr} {n c : Nat} {qs : List Rat} (h : RowR w (.slice (some a) n c) qs) {i : Nat} {q : Rat} (hq : qs[i]? = some q) :
    a.block < w.heap.size ∧ ∃ sg o1 k1 c1 o2 k2 c2, w.cell? (a.add (i * 3)) = some (.bool sg) ∧ w.cell? ⟨(a.add (i * 3)).block, (a.add (i * 3)).off + 1, none⟩ = some (.slice o1 k1 c1) ∧ w.cell? ⟨(a.add (i * 3)).block, (a.add (i * 3)).off + 2, none⟩ = some (.slice o2 k2 c2) ∧ RatAt w (.agg #[.bool sg, .slice o1 k1 c1, .slice o2 k2 c2]) q := by
  rcases h with ⟨rfl, _⟩ | ⟨a', cap, xs, e, h2, h3, h4, h5, h6, h7, h8⟩
  · simp at hq
  · injection e with e _ _
    injection e with e
    subst e
    have hi : i < qs.length := (List.getElem?_eq_some_iff.1 hq).1
    obtain ⟨row, hr⟩ : ∃ row, xs[i]? = some row := ⟨_, List.getElem?_eq_getElem (by omega)⟩
    have hR : RatAt w (.agg row.toArray) q := h8 i row q hr hq
    obtain ⟨o1, k1, c1, o2, k2, c2, hf⟩ := hR.form
    have hrow : row = [.bool (decide (q.num < 0)), .slice o1 k1 c1, .slice o2 k2 c2] := by
      injection hf with hf
      have := congrArg Array.toList hf
      simpa using this
    subst hrow
    exact ⟨h4.lt, _, o1, k1, c1, o2, k2, c2, h7 i _ hr 0 _ rfl, by rw [add_add_k _ _ _ (by decide)]; exact h7 i _ hr 1 _ rfl, by rw [add_add_k _ _ _ (by decide)]; exact h7 i _ hr 2 _ rfl, hR⟩
def longR (q : Rat) : Bool := !SmallQ q 20

set_option maxRecDepth 100000 in
set_option maxHeartbeats 8000000 in
/-- **'IndexFunc' of a row, by 'isLong'.** -/
theorem indexR_calls (w : World) (v : Value) (qs : List Rat) (h : RowR w v qs) (hq : ∀ q ∈ qs, RatLe q 100000) (htab : Pow10 w) :
    CallsIn Fence.wide 0 Tryz.prog 158 #[v, .func (.func 124) #[] #[]] w fun e w' => (∃ i : Int, e = .returned (.int .i64 i) ∧ decide (0 ≤ i) = qs.any longR) ∧ Below w.heap.size w w' := by
  have HR := Hid.intro h
  have HQ := Hid.intro hq
  have HTab := Hid.intro htab
  obtain ⟨o, c, rfl, hn9⟩ := h.form
  obtain ⟨n, hn⟩ : ∃ n, qs.length = n := ⟨_, rfl⟩
  have HN := Hid.intro hn
  rw [hn] at hn9 HR
  rw [hn]
  clear h hq htab hn
  refine callsIn_of_wp Tryz.func158 rfl trivial ?_ rfl
  simp only [Tryz.ntmps158, List.size_toArray, List.length_cons, List.length_nil, Nat.reduceAdd, Nat.reduceSub, Array.replicate_succ, Array.replicate_zero, List.push_toArray, List.append_toArray, List.nil_append, List.cons_append]
  gi_wp2
  gi_loopw [8] (fun x8 wr => ∃ i : Nat, x8 = .int .i64 (i : Int) ∧ i ≤ n ∧ Hid ((qs.take i).any longR = false) ∧ Hid (Below w.heap.size w wr)) (fun x _ => n - (intOf x).toNat)
  case atStart => exact ⟨0, rfl, by omega, Hid.intro (by simp), Below.refl _ w⟩
  case round =>
    obtain ⟨i, rfl, hi, HA, HB⟩ := hrel
    by_cases hin : i < n
    · obtain ⟨q, hq⟩ : ∃ q, qs[i]? = some q := ⟨_, List.getElem?_eq_getElem (by rw [HN.out]; exact hin)⟩
      have hR2 : RowR wr (.slice o n c) qs := HR.out.below HB.out (IR.below HB.out)
      obtain ⟨a, rfl⟩ : ∃ a, o = some a := by
        rcases hR2 with ⟨h0, _⟩ | ⟨a, cap, xs, e, _⟩
        · rw [h0] at hq; simp at hq
        · injection e with e _ _; exact ⟨a, e⟩
      obtain ⟨hal, sg, o1, k1, c1, o2, k2, c2, x0, x1, x2, hra⟩ := hR2.item hq
      have HRA := Hid.intro hra
      have HQq := Hid.intro hq
      clear hR2 hra hq
      gi_wp2_with (gi_at_call 124; refine stop ?_)
      unfold Stop
      refine (isLong_calls wr _ q HRA.out (HQ.out q (List.mem_of_getElem? HQq.out)) (HTab.out.below HB.out)).mono ?_
      rintro e w2 ⟨rfl, hB⟩
      have HB2 := Hid.intro (HB.out.trans (hB.mono HB.out.size))
      have htk : qs.take (i + 1) = qs.take i ++ [q] := by rw [List.take_add_one, HQq.out]; rfl
      have HTK := Hid.intro htk
      clear hB htk
      cases hs : SmallQ q 20 with
      | true =>
        simp only [Bool.not_true]
        have HA2 : Hid ((qs.take (i + 1)).any longR = false) := Hid.intro (by rw [HTK.out, List.any_append, HA.out]; show (false || (longR q || false)) = false; unfold longR; rw [hs]; rfl)
        clear hs
        gi_wp2
        exact ⟨⟨i + 1, by go_num, by omega, HA2, HB2⟩, by simp only [intOf]; omega⟩
      | false =>
        simp only [Bool.not_false]
        have HA2 : Hid (qs.any longR = true) := Hid.intro (List.any_eq_true.2 ⟨q, List.mem_of_getElem? HQq.out, by unfold longR; rw [hs]; rfl⟩)
        clear hs
        gi_wp2
        all_goals (first | go_returns | go_ret | go_end0)
        exact ⟨⟨(i : Int), rfl, by rw [HA2.out]; exact decide_eq_true (by omega)⟩, HB2.out⟩
    · have hin2 : i = n := by omega
      have HA2 : Hid (qs.any longR = false) := Hid.intro (by have := HA.out; rw [hin2, ← HN.out, List.take_length] at this; exact this)
      gi_wp2
      all_goals (first | go_returns | go_ret | go_end0)
      exact ⟨⟨-1, rfl, by rw [HA2.out]; rfl⟩, HB.out⟩

set_option maxRecDepth 100000 in
set_option maxHeartbeats 8000000 in
/-- **'ContainsFunc' of a row, by 'isLong'.** -/
theorem containsR_calls (w : World) (v : Value) (qs : List Rat) (h : RowR w v qs) (hq : ∀ q ∈ qs, RatLe q 100000) (htab : Pow10 w) :
    CallsIn Fence.wide 0 Tryz.prog 123 #[v, .func (.func 124) #[] #[]] w fun e w' => e = .returned (.bool (qs.any longR)) ∧ Below w.heap.size w w' := by
  have H1 : Hid (CallsIn Fence.wide 0 Tryz.prog 158 #[v, .func (.func 124) #[] #[]] w fun e w' => (∃ i : Int, e = .returned (.int .i64 i) ∧ decide (0 ≤ i) = qs.any longR) ∧ Below w.heap.size w w') := Hid.intro (indexR_calls w v qs h hq htab)
  obtain ⟨o, c, rfl, _⟩ := h.form
  clear h hq htab
  refine callsIn_of_wp Tryz.func123 rfl trivial ?_ rfl
  simp only [Tryz.ntmps123, List.size_toArray, List.length_cons, List.length_nil, Nat.reduceAdd, Nat.reduceSub, Array.replicate_succ, Array.replicate_zero, List.push_toArray, List.append_toArray, List.nil_append, List.cons_append]
  gi_wp2_with (gi_at_call 158; refine stop ?_)
  unfold Stop
  refine H1.out.mono ?_
  rintro e w2 ⟨⟨i, rfl, hi⟩, hB⟩
  have HI := Hid.intro hi
  have HB := Hid.intro hB
  clear hi hB
  gi_wp2
  all_goals (first | go_returns | go_ret | go_end0)
  refine ⟨?_, HB.out⟩
  rw [← HI.out]
  first | rfl | trace_state

set_option maxRecDepth 100000 in
set_option maxHeartbeats 8000000 in
/-- **'anyLong'.** -/
theorem anyLong_calls (w : World) (v : Value) (qs : List Rat) (h : RowR w v qs) (hq : ∀ q ∈ qs, RatLe q 100000) (htab : Pow10 w) :
    CallsIn Fence.wide 0 Tryz.prog 86 #[v] w fun e w' => e = .returned (.bool (qs.any longR)) ∧ Below w.heap.size w w' := by
  have H1 : Hid (CallsIn Fence.wide 0 Tryz.prog 123 #[v, .func (.func 124) #[] #[]] w fun e w' => e = .returned (.bool (qs.any longR)) ∧ Below w.heap.size w w') := Hid.intro (containsR_calls w v qs h hq htab)
  obtain ⟨o, c, rfl, _⟩ := h.form
  clear h hq htab
  refine callsIn_of_wp Tryz.func86 rfl trivial ?_ rfl
  simp only [Tryz.ntmps86, List.size_toArray, List.length_cons, List.length_nil, Nat.reduceAdd, Nat.reduceSub, Array.replicate_succ, Array.replicate_zero, List.push_toArray, List.append_toArray, List.nil_append, List.cons_append]
  gi_wp2_with (gi_at_call 123; refine stop ?_)
  unfold Stop
  refine H1.out.mono ?_
  rintro e w2 ⟨rfl, hB⟩
  have HB := Hid.intro hB
  clear hB
  gi_wp2
  all_goals (first | go_returns | go_ret | go_end0)
  exact ⟨rfl, HB.out⟩
end Go.Num

namespace Go.Num
open Go.Eng Go.Shelf Go.RowKit Go.Sort Go.Proofs Go.Proofs.YtoamcgjbelhnkaaGreatDoor

def longRow (r : List Rat) : Bool := r.any longR
def offRow (k : Nat) (r : List Rat) : Bool := !decide (r.length = k)

set_option maxRecDepth 100000 in
set_option maxHeartbeats 8000000 in
theorem indexM_long (w : World) (v : Value) (m : List (List Rat)) (h : MatR w v m) (hq : ∀ r ∈ m, ∀ q ∈ r, RatLe q 100000) (htab : Pow10 w) :
    CallsIn Fence.wide 0 Tryz.prog 133 #[v, (.func (.func 86) #[] #[])] w fun e w' => (∃ i : Int, e = .returned (.int .i64 i) ∧ decide (0 ≤ i) = m.any longRow) ∧ Below w.heap.size w w' := by
  have HR := Hid.intro h
  have HQ := Hid.intro hq
  have HTab := Hid.intro htab
  obtain ⟨o, c, hv, hn9, rv, hrd, hrow⟩ := RowIs.view (J := fun w x r => RowR w x r) h
  subst hv
  obtain ⟨n, hn⟩ : ∃ n, m.length = n := ⟨_, rfl⟩
  have HN := Hid.intro hn
  have HRd := Hid.intro hrd
  have HRow := Hid.intro hrow
  rw [hn] at hn9 HR HRd
  rw [hn]
  clear h hq htab hn hrd hrow
  refine callsIn_of_wp Tryz.func133 rfl trivial ?_ rfl
  simp only [Tryz.ntmps133, List.size_toArray, List.length_cons, List.length_nil, Nat.reduceAdd, Nat.reduceSub, Array.replicate_succ, Array.replicate_zero, List.push_toArray, List.append_toArray, List.nil_append, List.cons_append]
  gi_wp2
  gi_loopw [8] (fun x8 wr => ∃ i : Nat, x8 = .int .i64 (i : Int) ∧ i ≤ n ∧ Hid ((m.take i).any longRow = false) ∧ Hid (Below w.heap.size w wr)) (fun x _ => n - (intOf x).toNat)
  case atStart => exact ⟨0, rfl, by omega, Hid.intro (by simp), Below.refl _ w⟩
  case round =>
    obtain ⟨i, rfl, hi, HA, HB⟩ := hrel
    by_cases hin : i < n
    · obtain ⟨r, hr⟩ : ∃ r, m[i]? = some r := ⟨_, List.getElem?_eq_getElem (by rw [HN.out]; exact hin)⟩
      obtain ⟨a, rfl, ha, hc⟩ := HRd.out (by omega)
      have hrr := HRow.out i r hr
      obtain ⟨oi, ci, hf, _⟩ := hrr.form
      have p0 := (HB.out.cell (p := a.add i) (by rw [add_block]; exact ha)).trans (hc i hin)
      rw [hf] at p0 hrr
      have HRR := Hid.intro hrr
      have HMr := Hid.intro hr
      clear hc hrr hr hf
      gi_wp2_with (gi_at_call 86; refine stop ?_)
      unfold Stop
      refine (anyLong_calls wr _ r (RowIs.below HRR.out HB.out (IR.below HB.out)) (HQ.out r (List.mem_of_getElem? HMr.out)) (HTab.out.below HB.out)).mono ?_
      rintro e w2 ⟨rfl, hB⟩
      have HB2 := Hid.intro (HB.out.trans (hB.mono HB.out.size))
      have htk : m.take (i + 1) = m.take i ++ [r] := by rw [List.take_add_one, HMr.out]; rfl
      have HTK := Hid.intro htk
      clear hB htk
      obtain ⟨b, hb⟩ : ∃ b, longRow r = b := ⟨_, rfl⟩
      rw [show r.any longR = b from hb]
      cases b with
      | false =>
        have HA2 : Hid ((m.take (i + 1)).any longRow = false) := Hid.intro (by rw [HTK.out, List.any_append, HA.out]; show (false || (longRow r || false)) = false; rw [hb]; rfl)
        clear hb
        gi_wp2
        exact ⟨⟨i + 1, by go_num, by omega, HA2, HB2⟩, by simp only [intOf]; omega⟩
      | true =>
        have HA2 : Hid (m.any longRow = true) := Hid.intro (List.any_eq_true.2 ⟨r, List.mem_of_getElem? HMr.out, hb⟩)
        clear hb
        gi_wp2
        all_goals (first | go_returns | go_ret | go_end0)
        exact ⟨⟨(i : Int), rfl, by rw [HA2.out]; exact decide_eq_true (by omega)⟩, HB2.out⟩
    · have hin2 : i = n := by omega
      have HA2 : Hid (m.any longRow = false) := Hid.intro (by have := HA.out; rw [hin2, ← HN.out, List.take_length] at this; exact this)
      gi_wp2
      all_goals (first | go_returns | go_ret | go_end0)
      exact ⟨⟨-1, rfl, by rw [HA2.out]; rfl⟩, HB.out⟩

set_option maxRecDepth 100000 in
set_option maxHeartbeats 8000000 in
/-- The closure that compares lengths. -/
theorem off_calls (w : World) (oi : Option Addr) (l ci : Nat) (g : Nat) (a : Addr) (n c : Nat) (o0 : Option Addr) (k c0 : Nat) (hn : 0 < n) (hk : k ≤ 1000000000) (hb : w.cell? ⟨g, 0, none⟩ = some (.slice (some a) n c)) (h0 : w.cell? a = some (.slice o0 k c0)) :
    CallsIn Fence.wide 0 Tryz.prog 97 #[.slice oi l ci, .pointer (some ⟨g, 0, none⟩)] w fun e w' => e = .returned (.bool (!decide (l = k))) ∧ Below w.heap.size w w' := by
  refine callsIn_of_wp Tryz.func97 rfl trivial ?_ rfl
  simp only [Tryz.ntmps97, List.size_toArray, List.length_cons, List.length_nil, Nat.reduceAdd, Nat.reduceSub, Array.replicate_succ, Array.replicate_zero, List.push_toArray, List.append_toArray, List.nil_append, List.cons_append]
  by_cases hlk : l = k
  · subst hlk
    gi_wp2
    all_goals (first | go_returns | go_ret | go_end0)
    refine ⟨?_, Below.refl _ _⟩
    first | rfl | (rw [decide_eq_true rfl]; rfl)
  · have hne : ((l : Int) != (k : Int)) = true := by rw [bne_iff_ne]; omega
    gi_wp2
    all_goals (first | go_returns | go_ret | go_end0)
    refine ⟨?_, Below.refl _ _⟩
    rw [decide_eq_false hlk]
    first | rfl | trace_state

set_option maxRecDepth 100000 in
set_option maxHeartbeats 8000000 in
theorem indexM_off (w : World) (v : Value) (m : List (List Rat)) (h : MatR w v m) (hq : ∀ r ∈ m, ∀ q ∈ r, RatLe q 100000) (htab : Pow10 w) (g : Nat) (a0 : Addr) (n0 cc : Nat) (o0 : Option Addr) (k c0 : Nat) (hn0 : 0 < n0) (hk : k ≤ 1000000000) (hb0 : w.cell? ⟨g, 0, none⟩ = some (.slice (some a0) n0 cc)) (hc0 : w.cell? a0 = some (.slice o0 k c0)) :
    CallsIn Fence.wide 0 Tryz.prog 133 #[v, (.func (.func 97) #[] #[.pointer (some ⟨g, 0, none⟩)])] w fun e w' => (∃ i : Int, e = .returned (.int .i64 i) ∧ decide (0 ≤ i) = m.any (offRow k)) ∧ Below w.heap.size w w' := by
  have HR := Hid.intro h
  have HQ := Hid.intro hq
  have HTab := Hid.intro htab
  have HB0 := Hid.intro hb0
  have HC0 := Hid.intro hc0
  obtain ⟨o, c, hv, hn9, rv, hrd, hrow⟩ := RowIs.view (J := fun w x r => RowR w x r) h
  subst hv
  obtain ⟨n, hn⟩ : ∃ n, m.length = n := ⟨_, rfl⟩
  have HN := Hid.intro hn
  have HRd := Hid.intro hrd
  have HRow := Hid.intro hrow
  rw [hn] at hn9 HR HRd
  rw [hn]
  clear h hq htab hn hrd hrow hb0 hc0
  refine callsIn_of_wp Tryz.func133 rfl trivial ?_ rfl
  simp only [Tryz.ntmps133, List.size_toArray, List.length_cons, List.length_nil, Nat.reduceAdd, Nat.reduceSub, Array.replicate_succ, Array.replicate_zero, List.push_toArray, List.append_toArray, List.nil_append, List.cons_append]
  gi_wp2
  gi_loopw [8] (fun x8 wr => ∃ i : Nat, x8 = .int .i64 (i : Int) ∧ i ≤ n ∧ Hid ((m.take i).any (offRow k) = false) ∧ Hid (Below w.heap.size w wr)) (fun x _ => n - (intOf x).toNat)
  case atStart => exact ⟨0, rfl, by omega, Hid.intro (by simp), Below.refl _ w⟩
  case round =>
    obtain ⟨i, rfl, hi, HA, HB⟩ := hrel
    by_cases hin : i < n
    · obtain ⟨r, hr⟩ : ∃ r, m[i]? = some r := ⟨_, List.getElem?_eq_getElem (by rw [HN.out]; exact hin)⟩
      obtain ⟨a, rfl, ha, hc⟩ := HRd.out (by omega)
      have hrr := HRow.out i r hr
      obtain ⟨oi, ci, hf, _⟩ := hrr.form
      have p0 := (HB.out.cell (p := a.add i) (by rw [add_block]; exact ha)).trans (hc i hin)
      rw [hf] at p0 hrr
      have HRR := Hid.intro hrr
      have HMr := Hid.intro hr
      clear hc hrr hr hf
      gi_wp2_with (gi_at_call 97; refine stop ?_)
      unfold Stop
      refine (off_calls wr oi r.length ci g a0 n0 cc o0 k c0 hn0 hk ((HB.out.cell (World.block_lt_of_cell? _ _ HB0.out)).trans HB0.out) ((HB.out.cell (World.block_lt_of_cell? _ _ HC0.out)).trans HC0.out)).mono ?_
      rintro e w2 ⟨rfl, hB⟩
      have HB2 := Hid.intro (HB.out.trans (hB.mono HB.out.size))
      have htk : m.take (i + 1) = m.take i ++ [r] := by rw [List.take_add_one, HMr.out]; rfl
      have HTK := Hid.intro htk
      clear hB htk
      obtain ⟨b, hb⟩ : ∃ b, (offRow k) r = b := ⟨_, rfl⟩
      rw [show (!decide (r.length = k)) = b from hb]
      cases b with
      | false =>
        have HA2 : Hid ((m.take (i + 1)).any (offRow k) = false) := Hid.intro (by rw [HTK.out, List.any_append, HA.out]; show (false || ((offRow k) r || false)) = false; rw [hb]; rfl)
        clear hb
        gi_wp2
        exact ⟨⟨i + 1, by go_num, by omega, HA2, HB2⟩, by simp only [intOf]; omega⟩
      | true =>
        have HA2 : Hid (m.any (offRow k) = true) := Hid.intro (List.any_eq_true.2 ⟨r, List.mem_of_getElem? HMr.out, hb⟩)
        clear hb
        gi_wp2
        all_goals (first | go_returns | go_ret | go_end0)
        exact ⟨⟨(i : Int), rfl, by rw [HA2.out]; exact decide_eq_true (by omega)⟩, HB2.out⟩
    · have hin2 : i = n := by omega
      have HA2 : Hid (m.any (offRow k) = false) := Hid.intro (by have := HA.out; rw [hin2, ← HN.out, List.take_length] at this; exact this)
      gi_wp2
      all_goals (first | go_returns | go_ret | go_end0)
      exact ⟨⟨-1, rfl, by rw [HA2.out]; rfl⟩, HB.out⟩
end Go.Num

namespace Go.Num
open Go.Eng Go.Shelf Go.RowKit Go.Sort Go.Proofs Go.Proofs.YtoamcgjbelhnkaaGreatDoor

set_option maxRecDepth 100000 in
set_option maxHeartbeats 8000000 in
theorem containsM_long (w : World) (v : Value) (m : List (List Rat)) (h : MatR w v m) (hq : ∀ r ∈ m, ∀ q ∈ r, RatLe q 100000) (htab : Pow10 w) :
    CallsIn Fence.wide 0 Tryz.prog 96 #[v, (.func (.func 86) #[] #[])] w fun e w' => e = .returned (.bool (m.any longRow)) ∧ Below w.heap.size w w' := by
  have H1 := Hid.intro (indexM_long w v m h hq htab)
  obtain ⟨o, c, rfl, _⟩ := RowIs.form h
  clear h hq htab
  refine callsIn_of_wp Tryz.func96 rfl trivial ?_ rfl
  simp only [Tryz.ntmps96, List.size_toArray, List.length_cons, List.length_nil, Nat.reduceAdd, Nat.reduceSub, Array.replicate_succ, Array.replicate_zero, List.push_toArray, List.append_toArray, List.nil_append, List.cons_append]
  gi_wp2_with (gi_at_call 133; refine stop ?_)
  unfold Stop
  refine H1.out.mono ?_
  rintro e w2 ⟨⟨i, rfl, hi⟩, hB⟩
  have HI := Hid.intro hi
  have HB := Hid.intro hB
  clear hi hB
  gi_wp2
  all_goals (first | go_returns | go_ret | go_end0)
  refine ⟨?_, HB.out⟩
  rw [← HI.out]
  first | rfl | trace_state

set_option maxRecDepth 100000 in
set_option maxHeartbeats 8000000 in
theorem containsM_off (w : World) (v : Value) (m : List (List Rat)) (h : MatR w v m) (hq : ∀ r ∈ m, ∀ q ∈ r, RatLe q 100000) (htab : Pow10 w) (g : Nat) (a0 : Addr) (n0 cc : Nat) (o0 : Option Addr) (k c0 : Nat) (hn0 : 0 < n0) (hk : k ≤ 1000000000) (hb0 : w.cell? ⟨g, 0, none⟩ = some (.slice (some a0) n0 cc)) (hc0 : w.cell? a0 = some (.slice o0 k c0)) :
    CallsIn Fence.wide 0 Tryz.prog 96 #[v, (.func (.func 97) #[] #[.pointer (some ⟨g, 0, none⟩)])] w fun e w' => e = .returned (.bool (m.any (offRow k))) ∧ Below w.heap.size w w' := by
  have H1 := Hid.intro (indexM_off w v m h hq htab g a0 n0 cc o0 k c0 hn0 hk hb0 hc0)
  obtain ⟨o, c, rfl, _⟩ := RowIs.form h
  clear h hq htab hn0 hk hb0 hc0
  refine callsIn_of_wp Tryz.func96 rfl trivial ?_ rfl
  simp only [Tryz.ntmps96, List.size_toArray, List.length_cons, List.length_nil, Nat.reduceAdd, Nat.reduceSub, Array.replicate_succ, Array.replicate_zero, List.push_toArray, List.append_toArray, List.nil_append, List.cons_append]
  gi_wp2_with (gi_at_call 133; refine stop ?_)
  unfold Stop
  refine H1.out.mono ?_
  rintro e w2 ⟨⟨i, rfl, hi⟩, hB⟩
  have HI := Hid.intro hi
  have HB := Hid.intro hB
  clear hi hB
  gi_wp2
  all_goals (first | go_returns | go_ret | go_end0)
  refine ⟨?_, HB.out⟩
  rw [← HI.out]
  first | rfl | trace_state

/-- What is wrong with a matrix. -/
def checkM (m : List (List Rat)) : Int :=
  if 8 < m.length then 2 else
  match m with
  | [] => 7
  | r :: _ => if 8 < r.length then 2 else if r.length = 0 then 7 else if m.any (offRow r.length) then 7 else if m.any longRow then 11 else 0

set_option maxRecDepth 100000 in
set_option maxHeartbeats 8000000 in
/-- **'Check' of the program.** -/
theorem check_calls (w : World) (v : Value) (m : List (List Rat)) (h : MatR w v m) (hq : ∀ r ∈ m, ∀ q ∈ r, RatLe q 100000) (htab : Pow10 w) :
    CallsIn Fence.wide 0 Tryz.prog 49 #[v] w fun e w' => e = .returned (.int .i64 (checkM m)) ∧ Below w.heap.size w w' := by
  have HR := Hid.intro h
  have HQ := Hid.intro hq
  have HTab := Hid.intro htab
  obtain ⟨o, c, rfl, hn9, rv, hrd, hrow⟩ := RowIs.view (J := fun w x r => RowR w x r) h
  obtain ⟨n, hn⟩ : ∃ n, m.length = n := ⟨_, rfl⟩
  have HN := Hid.intro hn
  have HRow := Hid.intro hrow
  rw [hn] at hn9 HR hrd
  rw [hn]
  obtain ⟨W1, hW1⟩ : ∃ W, W = w.alloc (.cells #[.slice o n c] 55) := ⟨_, rfl⟩
  have hbw : Below w.heap.size w W1 := by rw [hW1]; exact alloc_below _ _
  have HBW := Hid.intro hbw
  obtain ⟨g, hg⟩ : ∃ g, w.heap.size = g := ⟨_, rfl⟩
  have hbox : W1.cell? ⟨g, 0, none⟩ = some (.slice o n c) := by rw [hW1, ← hg]; exact (boxL_new _ [.slice o n c] _).2 0 _ rfl
  have HBox := Hid.intro hbox
  refine callsIn_of_wp Tryz.func49 rfl trivial ?_ rfl
  simp only [Tryz.ntmps49, List.size_toArray, List.length_cons, List.length_nil, Nat.reduceAdd, Nat.reduceSub, Array.replicate_succ, Array.replicate_zero, List.push_toArray, List.append_toArray, List.nil_append, List.cons_append]
  rcases Nat.lt_or_ge 8 n with h8 | h8
  · have hd : decide ((n : Int) > 8) = true := decide_eq_true (by omega)
    have HS : Hid (checkM m = 2) := Hid.intro (by unfold checkM; rw [if_pos (by omega)])
    clear hq h htab hn hrow hrd hbw
    rw [hW1, ← hg] at hbox
    gi_wp2_with (exfalso; exact undef_no (by assumption))
    all_goals (first | go_returns | go_ret | go_end0)
    refine ⟨by rw [HS.out]; rfl, ?_⟩
    rw [← hW1]
    exact HBW.out
  · have hd : decide ((n : Int) > 8) = false := decide_eq_false (by omega)
    match m, h, hq, HR, HQ, HN, HRow, hrow, hn with
    | [], _, _, _, _, HN, _, _, hn =>
      have hn0 : n = 0 := by rw [← hn]; rfl
      subst hn0
      clear hq h htab hn hrow hrd hbw
      rw [hW1, ← hg] at hbox
      gi_wp2_with (exfalso; exact undef_no (by assumption))
      all_goals (first | go_returns | go_ret | go_end0)
      refine ⟨rfl, ?_⟩
      rw [← hW1]
      exact HBW.out
    | r :: t, _, _, HR, HQ, HN, HRow, hrow, hn =>
      have hn1 : 0 < n := by rw [← hn]; exact Nat.succ_pos _
      obtain ⟨a, rfl, ha, hc⟩ := hrd hn1
      have hr0 := hrow 0 r rfl
      obtain ⟨o0, c0, hf, hk9⟩ := RowIs.form hr0
      have p0 := (hbw.cell (p := a.add 0) (by rw [add_block]; exact ha)).trans (hc 0 hn1)
      rw [hf, show a.add 0 = a by simp [Addr.add]] at p0
      obtain ⟨k, hk⟩ : ∃ k, r.length = k := ⟨_, rfl⟩
      have HK := Hid.intro hk
      rw [hk] at p0 hk9
      have HP0 := Hid.intro p0
      have he : decide ((n : Int) = 0) = false := decide_eq_false (by omega)
      have he2 : ((n : Int) == 0) = false := by rw [beq_eq_false_iff_ne]; omega
      have hn8 : (r :: t).length = n := hn
      have HN8 : Hid (¬ 8 < (r :: t).length) := Hid.intro (by rw [hn]; omega)
      clear hq h htab hn hrow hrd hbw hc hr0 hf hk
      rw [hW1] at p0
      rw [hW1, ← hg] at hbox
      rcases Nat.lt_or_ge 8 k with hk8 | hk8
      · have hd2 : decide ((k : Int) > 8) = true := decide_eq_true (by omega)
        have HS : Hid (checkM (r :: t) = 2) := Hid.intro (by unfold checkM; rw [if_neg HN8.out]; show (if 8 < r.length then _ else _) = _; rw [if_pos (by rw [HK.out]; exact hk8)])
        gi_wp2_with (exfalso; exact undef_no (by assumption))
        all_goals (first | go_returns | go_ret | go_end0)
        refine ⟨by rw [HS.out]; rfl, ?_⟩
        rw [← hW1]
        exact HBW.out
      · have hd2 : decide ((k : Int) > 8) = false := decide_eq_false (by omega)
        rcases Nat.eq_zero_or_pos k with hk0 | hk0
        · subst hk0
          have HS : Hid (checkM (r :: t) = 7) := Hid.intro (by unfold checkM; rw [if_neg HN8.out]; show (if 8 < r.length then _ else _) = _; rw [if_neg (by rw [HK.out]; omega), if_pos HK.out])
          gi_wp2_with (exfalso; exact undef_no (by assumption))
          all_goals (first | go_returns | go_ret | go_end0)
          refine ⟨by rw [HS.out]; rfl, ?_⟩
          rw [← hW1]
          exact HBW.out
        · have he3 : ((k : Int) == 0) = false := by rw [beq_eq_false_iff_ne]; omega
          have hne8 : checkM (r :: t) = (if (r :: t).any (offRow k) then 7 else if (r :: t).any longRow then 11 else 0) := by
            unfold checkM
            rw [if_neg HN8.out]
            show (if 8 < r.length then _ else _) = _
            rw [if_neg (by rw [HK.out]; omega), if_neg (by rw [HK.out]; omega), HK.out]
          have HS := Hid.intro hne8
          have h1 := containsM_off W1 (.slice (some a) n c) (r :: t) (RowIs.below HR.out HBW.out (IRowR.below HBW.out)) HQ.out (HTab.out.below HBW.out) g a n c o0 k c0 hn1 hk9 HBox.out HP0.out
          have H1 := Hid.intro h1
          clear hne8 h1
          gi_wp2_with (first | (exfalso; exact undef_no (by assumption)) | (gi_at_call 96; refine stop ?_))
          unfold Stop
          rw [← hW1]
          refine H1.out.mono ?_
          rintro e w2 ⟨rfl, hB⟩
          have hbox2 : w2.cell? ⟨g, 0, none⟩ = some (.slice (some a) n c) := (hB.cell (World.block_lt_of_cell? _ _ HBox.out)).trans HBox.out
          have HBW2 := Hid.intro (HBW.out.trans (hB.mono HBW.out.size))
          clear hbox p0 hW1 hB
          obtain ⟨b, hb⟩ : ∃ b, (r :: t).any (offRow k) = b := ⟨_, rfl⟩
          rw [hb]
          cases b with
          | true =>
            have HS2 : Hid (checkM (r :: t) = 7) := Hid.intro (by rw [HS.out, hb]; rfl)
            gi_wp2_with (exfalso; exact undef_no (by assumption))
            all_goals (first | go_returns | go_ret | go_end0)
            exact ⟨by rw [HS2.out]; rfl, HBW2.out⟩
          | false =>
            have HS2 : Hid (checkM (r :: t) = (if (r :: t).any longRow then 11 else 0)) := Hid.intro (by rw [HS.out, hb]; rfl)
            have h2 := containsM_long w2 (.slice (some a) n c) (r :: t) (RowIs.below HR.out HBW2.out (IRowR.below HBW2.out)) HQ.out (HTab.out.below HBW2.out)
            have H2 := Hid.intro h2
            clear h2 hb
            gi_wp2_with (first | (exfalso; exact undef_no (by assumption)) | (gi_at_call 96; refine stop ?_))
            unfold Stop
            refine H2.out.mono ?_
            rintro e w3 ⟨rfl, hB⟩
            have HBW3 := Hid.intro (HBW2.out.trans (hB.mono HBW2.out.size))
            clear hB
            obtain ⟨b, hb⟩ : ∃ b, (r :: t).any longRow = b := ⟨_, rfl⟩
            rw [hb]
            cases b with
            | true =>
              have HS3 : Hid (checkM (r :: t) = 11) := Hid.intro (by rw [HS2.out, hb]; rfl)
              clear hb
              gi_wp2_with (exfalso; exact undef_no (by assumption))
              all_goals (first | go_returns | go_ret | go_end0)
              exact ⟨by rw [HS3.out]; rfl, HBW3.out⟩
            | false =>
              have HS3 : Hid (checkM (r :: t) = 0) := Hid.intro (by rw [HS2.out, hb]; rfl)
              clear hb
              gi_wp2_with (exfalso; exact undef_no (by assumption))
              all_goals (first | go_returns | go_ret | go_end0)
              exact ⟨by rw [HS3.out]; rfl, HBW3.out⟩
end Go.Num

namespace Go.Num
open Go.Eng Go.Shelf Go.RowKit Go.Sort Go.Proofs Go.Proofs.YtoamcgjbelhnkaaGreatDoor

/-- A fraction of a row of the reference. -/
theorem RowIs.itemQ {w : World} {a : Addr} {n c : Nat} {qs : List Rat} (h : RowQ w (.slice (some a) n c) qs) {i : Nat} {q : Rat} (hq : qs[i]? = some q) :
    a.block < w.heap.size ∧ ∃ sg o1 k1 c1 o2 k2 c2, w.cell? (a.add (i * 4)) = some (.bool sg) ∧ w.cell? ⟨(a.add (i * 4)).block, (a.add (i * 4)).off + 1, none⟩ = some (.slice o1 k1 c1) ∧ w.cell? ⟨(a.add (i * 4)).block, (a.add (i * 4)).off + 2, none⟩ = some (.bool false) ∧ w.cell? ⟨(a.add (i * 4)).block, (a.add (i * 4)).off + 3, none⟩ = some (.slice o2 k2 c2) ∧ QAt w (.agg #[.bool sg, .slice o1 k1 c1, .bool false, .slice o2 k2 c2]) q := by
  rcases h with ⟨rfl, _⟩ | ⟨a', cap, xs, e, h2, h3, h4, h5, h6, h7, h8⟩
  · simp at hq
  · injection e with e _ _
    injection e with e
    subst e
    have hi : i < qs.length := (List.getElem?_eq_some_iff.1 hq).1
    obtain ⟨row, hr⟩ : ∃ row, xs[i]? = some row := ⟨_, List.getElem?_eq_getElem (by omega)⟩
    have hR : QAt w (.agg row.toArray) q := h8 i row q hr hq
    obtain ⟨m1, m2, hf, hm1, hm2⟩ := hR
    obtain ⟨o1, k1, c1, rfl, _, _⟩ := natI_len hm1
    obtain ⟨o2, k2, c2, rfl, _, _⟩ := natI_len hm2
    have hrow : row = [.bool (decide (q.num < 0)), .slice o1 k1 c1, .bool false, .slice o2 k2 c2] := by
      injection hf with hf
      have := congrArg Array.toList hf
      simpa using this
    subst hrow
    exact ⟨h4.lt, _, o1, k1, c1, o2, k2, c2, h7 i _ hr 0 _ rfl, by rw [add_add_k _ _ _ (by decide)]; exact h7 i _ hr 1 _ rfl, by rw [add_add_k _ _ _ (by decide)]; exact h7 i _ hr 2 _ rfl, by rw [add_add_k _ _ _ (by decide)]; exact h7 i _ hr 3 _ rfl, _, _, rfl, hm1, hm2⟩

set_option maxRecDepth 100000 in
set_option maxHeartbeats 8000000 in
/-- **'Check' of the reference.** -/
theorem rcheck_calls (w : World) (v : Value) (m : List (List Rat)) (h : MatQ w v m) :
    CallsIn Fence.wide 0 Tryz.prog 26 #[v] w fun e w' => e = .returned (.int .i64 (checkM m)) ∧ Below w.heap.size w w' := by
  obtain ⟨o, c, rfl, hn9, rv, hrd, hrow⟩ := RowIs.view (J := fun w x r => RowQ w x r) h
  obtain ⟨n, hn⟩ : ∃ n, m.length = n := ⟨_, rfl⟩
  have HN := Hid.intro hn
  have HRow := Hid.intro hrow
  rw [hn] at hn9 hrd
  rw [hn]
  have HRd := Hid.intro hrd
  clear h
  refine callsIn_of_wp Tryz.func26 rfl trivial ?_ rfl
  simp only [Tryz.ntmps26, List.size_toArray, List.length_cons, List.length_nil, Nat.reduceAdd, Nat.reduceSub, Array.replicate_succ, Array.replicate_zero, List.push_toArray, List.append_toArray, List.nil_append, List.cons_append]
  rcases Nat.lt_or_ge 8 n with h8 | h8
  · have hd : decide ((n : Int) > 8) = true := decide_eq_true (by omega)
    have HS : Hid (checkM m = 2) := Hid.intro (by unfold checkM; rw [if_pos (by omega)])
    clear hn hrow hrd
    gi_wp2_with (exfalso; exact undef_no (by assumption))
    all_goals (first | go_returns | go_ret | go_end0)
    exact ⟨by rw [HS.out]; rfl, Below.refl _ _⟩
  · have hd : decide ((n : Int) > 8) = false := decide_eq_false (by omega)
    match m, HN, HRow, hrow, hn with
    | [], HN, _, _, hn =>
      have hn0 : n = 0 := by rw [← hn]; rfl
      subst hn0
      clear hn hrow hrd
      gi_wp2_with (exfalso; exact undef_no (by assumption))
      all_goals (first | go_returns | go_ret | go_end0)
      exact ⟨rfl, Below.refl _ _⟩
    | r :: t, HN, HRow, hrow, hn =>
      have hn1 : 0 < n := by rw [← hn]; exact Nat.succ_pos _
      obtain ⟨a, rfl, ha, hc⟩ := hrd hn1
      have hr0 := hrow 0 r rfl
      obtain ⟨o0, c0, hf, hk9⟩ := RowIs.form hr0
      have p0 := hc 0 hn1
      rw [hf, show a.add 0 = a by simp [Addr.add]] at p0
      obtain ⟨k, hk⟩ : ∃ k, r.length = k := ⟨_, rfl⟩
      have HK := Hid.intro hk
      rw [hk] at p0 hk9
      have HP0 := Hid.intro p0
      have HA := Hid.intro ha
      have HC := Hid.intro hc
      have he : decide ((n : Int) = 0) = false := decide_eq_false (by omega)
      have he2 : ((n : Int) == 0) = false := by rw [beq_eq_false_iff_ne]; omega
      have HN8 : Hid (¬ 8 < (r :: t).length) := Hid.intro (by rw [hn]; omega)
      clear hn hrow hrd hc hr0 hf hk ha
      rcases Nat.lt_or_ge 8 k with hk8 | hk8
      · have hd2 : decide ((k : Int) > 8) = true := decide_eq_true (by omega)
        have HS : Hid (checkM (r :: t) = 2) := Hid.intro (by unfold checkM; rw [if_neg HN8.out]; show (if 8 < r.length then _ else _) = _; rw [if_pos (by rw [HK.out]; exact hk8)])
        gi_wp2_with (exfalso; exact undef_no (by assumption))
        all_goals (first | go_returns | go_ret | go_end0)
        exact ⟨by rw [HS.out]; rfl, Below.refl _ _⟩
      · have hd2 : decide ((k : Int) > 8) = false := decide_eq_false (by omega)
        rcases Nat.eq_zero_or_pos k with hk0 | hk0
        · subst hk0
          have HS : Hid (checkM (r :: t) = 7) := Hid.intro (by unfold checkM; rw [if_neg HN8.out]; show (if 8 < r.length then _ else _) = _; rw [if_neg (by rw [HK.out]; omega), if_pos HK.out])
          gi_wp2_with (exfalso; exact undef_no (by assumption))
          all_goals (first | go_returns | go_ret | go_end0)
          exact ⟨by rw [HS.out]; rfl, Below.refl _ _⟩
        · have he3 : ((k : Int) == 0) = false := by rw [beq_eq_false_iff_ne]; omega
          have hne8 : checkM (r :: t) = (if (r :: t).any (offRow k) then 7 else if (r :: t).any longRow then 11 else 0) := by
            unfold checkM
            rw [if_neg HN8.out]
            show (if 8 < r.length then _ else _) = _
            rw [if_neg (by rw [HK.out]; omega), if_neg (by rw [HK.out]; omega), HK.out]
          have HS := Hid.intro hne8
          clear hne8
          obtain ⟨m', hm'⟩ : ∃ m', r :: t = m' := ⟨_, rfl⟩
          rw [hm'] at HS HRow HN
          rw [hm']
          clear hm'
          gi_wp2_with (exfalso; exact undef_no (by assumption))
          clear p0
          gi_loopw [3] (fun x3 wr => ∃ i : Nat, x3 = .int .i64 (i : Int) ∧ i ≤ n ∧ Hid ((m'.take i).any (offRow k) = false) ∧ Hid (Below w.heap.size w wr)) (fun x _ => n - (intOf x).toNat)
          case atStart => exact ⟨0, rfl, by omega, Hid.intro (by simp), Below.refl _ w⟩
          case round =>
            obtain ⟨i, rfl, hi, HA1, HB⟩ := hrel
            by_cases hin : i < n
            · obtain ⟨ri, hri⟩ : ∃ r, m'[i]? = some r := ⟨_, List.getElem?_eq_getElem (by rw [HN.out]; exact hin)⟩
              have hrr := HRow.out i ri hri
              obtain ⟨oi, ci, hf, hli9⟩ := hrr.form
              have p0 := (HB.out.cell (p := a) HA.out).trans HP0.out
              have p1 := (HB.out.cell (p := a.add i) (by rw [add_block]; exact HA.out)).trans (HC.out i hin)
              rw [hf] at p1
              have htk : m'.take (i + 1) = m'.take i ++ [ri] := by rw [List.take_add_one, hri]; rfl
              have HTK := Hid.intro htk
              have HMr := Hid.intro hri
              obtain ⟨li, hli⟩ : ∃ li, ri.length = li := ⟨_, rfl⟩
              have HLi := Hid.intro hli
              rw [hli] at p1 hli9
              clear hrr hri hf htk hli
              by_cases hlk : li = k
              · subst hlk
                have HA2 : Hid ((m'.take (i + 1)).any (offRow li) = false) := Hid.intro (by rw [HTK.out, List.any_append, HA1.out]; show (false || (offRow li ri || false)) = false; unfold offRow; rw [HLi.out, decide_eq_true rfl]; rfl)
                gi_wp2_with (gi_region)
                have HB2 : Hid (Below w.heap.size w wr.drew) := Hid.intro (HB.out.trans ((drew_below wr).mono HB.out.size))
                exact ⟨⟨i + 1, by go_num, by omega, HA2, HB2⟩, by simp only [intOf]; omega⟩
              · have HA2 : Hid (m'.any (offRow k) = true) := Hid.intro (List.any_eq_true.2 ⟨ri, List.mem_of_getElem? HMr.out, by unfold offRow; rw [HLi.out, decide_eq_false hlk]; rfl⟩)
                have hne : ((li : Int) != (k : Int)) = true := by rw [bne_iff_ne]; omega
                gi_wp2_with (gi_region)
                all_goals (first | go_returns | go_ret | go_end0)
                exact ⟨by rw [HS.out, HA2.out]; rfl, HB.out.trans ((drew_below wr).mono HB.out.size)⟩
            · have hin2 : i = n := by omega
              have HA2 : Hid (m'.any (offRow k) = false) := Hid.intro (by have := HA1.out; rw [hin2, ← HN.out, List.take_length] at this; exact this)
              have HS2 : Hid (checkM m' = if m'.any longRow then 11 else 0) := Hid.intro (by rw [HS.out, HA2.out]; rfl)
              obtain ⟨ws, hws⟩ : ∃ ws, wr = ws := ⟨_, rfl⟩
              rw [hws] at HB
              rw [hws]
              clear HA1 hws
              gi_wp2
              clear hi hin hin2
              gi_loopw [4] (fun x4 wt => ∃ i : Nat, x4 = .int .i64 (i : Int) ∧ i ≤ n ∧ Hid ((m'.take i).any longRow = false) ∧ Hid (Below w.heap.size w wt)) (fun x _ => n - (intOf x).toNat)
              case atStart => exact ⟨0, rfl, by omega, Hid.intro (by simp), HB.out⟩
              case round =>
                clear HB
                obtain ⟨i, rfl, hi, HA1, HB⟩ := hrel
                by_cases hin : i < n
                · obtain ⟨ri, hri⟩ : ∃ r, m'[i]? = some r := ⟨_, List.getElem?_eq_getElem (by rw [HN.out]; exact hin)⟩
                  have hrr := HRow.out i ri hri
                  obtain ⟨oi, ci, hf, hli9⟩ := hrr.form
                  rw [hf] at hrr
                  have HRR := Hid.intro hrr
                  have HP1 : Hid (∀ w', Below w.heap.size w w' → w'.cell? (a.add i) = some (.slice oi ri.length ci)) := Hid.intro (fun w' hb => by rw [← hf]; exact (hb.cell (p := a.add i) (by rw [add_block]; exact HA.out)).trans (HC.out i hin))
                  have htk : m'.take (i + 1) = m'.take i ++ [ri] := by rw [List.take_add_one, hri]; rfl
                  have HTK := Hid.intro htk
                  have HMr := Hid.intro hri
                  obtain ⟨li, hli⟩ : ∃ li, ri.length = li := ⟨_, rfl⟩
                  have HLi := Hid.intro hli
                  rw [hli] at hli9 HP1 HRR
                  clear hrr hri hf htk hli
                  gi_wp2
                  gi_loopw [5] (fun x5 wt => ∃ j : Nat, x5 = .int .i64 (j : Int) ∧ j ≤ li ∧ Hid ((ri.take j).any longR = false) ∧ Hid (Below w.heap.size w wt)) (fun x _ => li - (intOf x).toNat)
                  case atStart => exact ⟨0, rfl, by omega, Hid.intro (by simp), HB.out⟩
                  case round =>
                    clear HB
                    obtain ⟨j, rfl, hj, HA3, HB⟩ := hrel
                    have p1 := HP1.out _ HB.out
                    by_cases hjl : j < li
                    · obtain ⟨q, hq⟩ : ∃ q, ri[j]? = some q := ⟨_, List.getElem?_eq_getElem (by rw [HLi.out]; exact hjl)⟩
                      obtain ⟨ai, rfl⟩ : ∃ a, oi = some a := by
                        rcases HRR.out with ⟨h0, _⟩ | ⟨a, cap, xs, e, _⟩
                        · rw [h0] at hq; simp at hq
                        · injection e with e _ _; exact ⟨a, e⟩
                      have hR2 := RowIs.below HRR.out HB.out (IQ.below HB.out)
                      obtain ⟨hal, sg, o1, k1, c1, o2, k2, c2, x0, x1, x2, x3, hra⟩ := RowIs.itemQ hR2 hq
                      have HRA := Hid.intro hra
                      have hjk : ri.take (j + 1) = ri.take j ++ [q] := by rw [List.take_add_one, hq]; rfl
                      have HJK := Hid.intro hjk
                      have HQq := Hid.intro hq
                      clear hR2 hra hq hjk
                      gi_wp2_with (gi_at_call 33; refine stop ?_)
                      unfold Stop
                      refine (smallQ_calls _ _ q 20 HRA.out).mono ?_
                      rintro e w2 ⟨rfl, hB⟩
                      have HB2 := Hid.intro (HB.out.trans (hB.mono HB.out.size))
                      clear hB
                      cases hs : SmallQ q 20 with
                      | true =>
                        have HA4 : Hid ((ri.take (j + 1)).any longR = false) := Hid.intro (by rw [HJK.out, List.any_append, HA3.out]; show (false || (longR q || false)) = false; unfold longR; rw [hs]; rfl)
                        clear hs
                        gi_wp2
                        exact ⟨⟨j + 1, by go_num, by omega, HA4, HB2⟩, by simp only [intOf]; omega⟩
                      | false =>
                        have HA4 : Hid (m'.any longRow = true) := Hid.intro (List.any_eq_true.2 ⟨ri, List.mem_of_getElem? HMr.out, List.any_eq_true.2 ⟨q, List.mem_of_getElem? HQq.out, by unfold longR; rw [hs]; rfl⟩⟩)
                        clear hs
                        gi_wp2
                        all_goals (first | go_returns | go_ret | go_end0)
                        exact ⟨by rw [HS2.out, HA4.out]; rfl, HB2.out⟩
                    · have hjn : j = li := by omega
                      have HA4 : Hid (ri.any longR = false) := Hid.intro (by have := HA3.out; rw [hjn, ← HLi.out, List.take_length] at this; exact this)
                      have HA5 : Hid ((m'.take (i + 1)).any longRow = false) := Hid.intro (by rw [HTK.out, List.any_append, HA1.out]; show (false || (ri.any longR || false)) = false; rw [HA4.out]; rfl)
                      gi_wp2
                      exact ⟨⟨i + 1, by go_num, by omega, HA5, HB⟩, by simp only [intOf]; omega⟩
                · have hin2 : i = n := by omega
                  have HA2 : Hid (m'.any longRow = false) := Hid.intro (by have := HA1.out; rw [hin2, ← HN.out, List.take_length] at this; exact this)
                  gi_wp2
                  all_goals (first | go_returns | go_ret | go_end0)
                  exact ⟨by rw [HS2.out, HA2.out]; rfl, HB.out⟩
end Go.Num

namespace Go.Num
open Go.Eng Go.Shelf Go.RowKit Go.Sort Go.Proofs Go.Proofs.YtoamcgjbelhnkaaGreatDoor

def leafV (o : Option Addr) (n c : Nat) : Leaf rs3 where
  sh := .one
  I := fun v _ => v = .slice o n c
  stable := fun _ _ _ _ h => h
  ok := by rintro v w rfl; rfl
  det := fun h => by cases h
abbrev ns : AT := .val (.sc .nilSlice)
abbrev zR : AT := .val (.agg (.cons (.sc (.bool false)) (.cons (.sc .nilSlice) (.cons (.sc .nilSlice) .nil))))
abbrev zeroV : Value := .agg #[.bool false, .slice none 0 0, .slice none 0 0]
def scrC (c : Int) : List Entry := [(49, A1 (tg 0), A1 (vi c))]
def MatLe (m : List (List Rat)) : Prop := ∀ r ∈ m, ∀ q ∈ r, RatLe q 100000

theorem checkM_cases (m : List (List Rat)) : checkM m = 0 ∨ checkM m = 2 ∨ checkM m = 7 ∨ checkM m = 11 := by
  unfold checkM
  split
  · exact .inr (.inl rfl)
  · split
    · exact .inr (.inr (.inl rfl))
    · split
      · exact .inr (.inl rfl)
      · split
        · exact .inr (.inr (.inl rfl))
        · split
          · exact .inr (.inr (.inl rfl))
          · split
            · exact .inr (.inr (.inr rfl))
            · exact .inl rfl

section
variable {w : World} {o : Option Addr} {n k : Nat} {m : List (List Rat)} {c : Int}
theorem check_told (h : MatR w (.slice o n k) m) (hq : MatLe m) (hL : Laid w) (hc : checkM m = c) : TI w [leafV o n k] (scrC c) := by
  refine told_e1 ⟨_, Tryz.func49, rfl⟩ (fun w1 v hw hv => ?_) told_nil
  have hv : v = .slice o n k := hv
  subst hv
  refine (check_calls w1 _ m (RowIs.below h hw (IRowR.below hw)) hq (hL.pow.below hw)).mono ?_
  rintro e w' ⟨rfl, h2⟩
  rw [hc]
  exact ⟨_, rfl, rfl, h2⟩
theorem err_three (hc : checkM m = c) (h0 : c ≠ 0) : c = 2 ∨ c = 7 ∨ c = 11 := by
  rcases checkM_cases m with h | h | h | h
  · exact absurd (hc.symm.trans h) h0
  · exact .inl (hc.symm.trans h)
  · exact .inr (.inl (hc.symm.trans h))
  · exact .inr (.inr (hc.symm.trans h))
/-- **'Det' where 'Check' finds fault.** -/
theorem det_err (h : MatR w (.slice o n k) m) (hq : MatLe m) (hL : Laid w) (hc : checkM m = c) (h0 : c ≠ 0) :
    CallsIn Fence.wide 0 Tryz.prog 50 #[.slice o n k] w fun e w' => e = .returned (.tuple #[zeroV, .int .i64 c]) ∧ Below w.heap.size w w' := by
  have hT := check_told h hq hL hc
  have hr : runF Tryz.prog (clsL [.one]) (lookT (scrC c)) rs3 [] 50 50 (A1 (tg 0)) = some (A2 zR (vi c)) := by
    rcases err_three hc h0 with h | h | h
    all_goals
      subst h
      kernel_rfl
  refine (run_script follows namesOK (S := [.one]) rfl hT hr (xs := #[.slice o n k]) (ps1 rfl)).mono ?_
  rintro e w' ⟨x, rfl, hx, hB⟩
  obtain ⟨x, y, rfl, h1, h2⟩ := un2 hx
  have h1 : some zeroV = some x := h1
  have h2 : some (Value.int .i64 c) = some y := h2
  cases h1
  cases h2
  exact ⟨rfl, hB⟩
/-- **'Rank' where 'Check' finds fault.** -/
theorem rank_err (h : MatR w (.slice o n k) m) (hq : MatLe m) (hL : Laid w) (hc : checkM m = c) (h0 : c ≠ 0) :
    CallsIn Fence.wide 0 Tryz.prog 51 #[.slice o n k] w fun e w' => e = .returned (.tuple #[.int .i64 0, .int .i64 c]) ∧ Below w.heap.size w w' := by
  have hT := check_told h hq hL hc
  have hr : runF Tryz.prog (clsL [.one]) (lookT (scrC c)) rs3 [] 50 51 (A1 (tg 0)) = some (A2 (vi 0) (vi c)) := by
    rcases err_three hc h0 with h | h | h
    all_goals
      subst h
      kernel_rfl
  refine (run_script follows namesOK (S := [.one]) rfl hT hr (xs := #[.slice o n k]) (ps1 rfl)).mono ?_
  rintro e w' ⟨x, rfl, hx, hB⟩
  obtain ⟨x, y, rfl, h1, h2⟩ := un2 hx
  have h1 : some (Value.int .i64 0) = some x := h1
  have h2 : some (Value.int .i64 c) = some y := h2
  cases h1
  cases h2
  exact ⟨rfl, hB⟩
/-- **'Solve' where 'Check' finds fault.** -/
theorem solve_err (h : MatR w (.slice o n k) m) (hq : MatLe m) (hL : Laid w) (hc : checkM m = c) (h0 : c ≠ 0) :
    CallsIn Fence.wide 0 Tryz.prog 32 #[.slice o n k, .slice none 0 0] w fun e w' => e = .returned (.tuple #[.slice none 0 0, .int .i64 0, .int .i64 c]) ∧ Below w.heap.size w w' := by
  have hT := check_told h hq hL hc
  have hr : runF Tryz.prog (clsL [.one]) (lookT (scrC c)) rs3 [] 50 32 (A2 (tg 0) ns) = some (A3 ns (vi 0) (vi c)) := by
    rcases err_three hc h0 with h | h | h
    all_goals
      subst h
      kernel_rfl
  refine (run_script follows namesOK (S := [.one]) rfl hT hr (xs := #[.slice o n k, .slice none 0 0]) (ps2 rfl rfl)).mono ?_
  rintro e w' ⟨x, rfl, hx, hB⟩
  obtain ⟨x, y, z, rfl, h1, h2, h3⟩ := un3 hx
  have h1 : some (Value.slice none 0 0) = some x := h1
  have h2 : some (Value.int .i64 0) = some y := h2
  have h3 : some (Value.int .i64 c) = some z := h3
  cases h1
  cases h2
  cases h3
  exact ⟨rfl, hB⟩
/-- **'Kernel' where 'Check' finds fault.** -/
theorem kernel_err (h : MatR w (.slice o n k) m) (hq : MatLe m) (hL : Laid w) (hc : checkM m = c) (h0 : c ≠ 0) :
    CallsIn Fence.wide 0 Tryz.prog 27 #[.slice o n k] w fun e w' => e = .returned (.tuple #[.slice none 0 0, .int .i64 c]) ∧ Below w.heap.size w w' := by
  have hT := check_told h hq hL hc
  have hr : runF Tryz.prog (clsL [.one]) (lookT (scrC c)) rs3 [] 50 27 (A1 (tg 0)) = some (A2 ns (vi c)) := by
    rcases err_three hc h0 with h | h | h
    all_goals
      subst h
      kernel_rfl
  refine (run_script follows namesOK (S := [.one]) rfl hT hr (xs := #[.slice o n k]) (ps1 rfl)).mono ?_
  rintro e w' ⟨x, rfl, hx, hB⟩
  obtain ⟨x, y, rfl, h1, h2⟩ := un2 hx
  have h1 : some (Value.slice none 0 0) = some x := h1
  have h2 : some (Value.int .i64 c) = some y := h2
  cases h1
  cases h2
  exact ⟨rfl, hB⟩
/-- **'Inverse' where 'Check' finds fault.** -/
theorem inverse_err (h : MatR w (.slice o n k) m) (hq : MatLe m) (hL : Laid w) (hc : checkM m = c) (h0 : c ≠ 0) :
    CallsIn Fence.wide 0 Tryz.prog 52 #[.slice o n k] w fun e w' => e = .returned (.tuple #[.slice none 0 0, .int .i64 c]) ∧ Below w.heap.size w w' := by
  have hT := check_told h hq hL hc
  have hr : runF Tryz.prog (clsL [.one]) (lookT (scrC c)) rs3 [] 50 52 (A1 (tg 0)) = some (A2 ns (vi c)) := by
    rcases err_three hc h0 with h | h | h
    all_goals
      subst h
      kernel_rfl
  refine (run_script follows namesOK (S := [.one]) rfl hT hr (xs := #[.slice o n k]) (ps1 rfl)).mono ?_
  rintro e w' ⟨x, rfl, hx, hB⟩
  obtain ⟨x, y, rfl, h1, h2⟩ := un2 hx
  have h1 : some (Value.slice none 0 0) = some x := h1
  have h2 : some (Value.int .i64 c) = some y := h2
  cases h1
  cases h2
  exact ⟨rfl, hB⟩
end
end Go.Num
