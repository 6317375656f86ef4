/-
  What lies in memory while the program's search runs.
  Conditions: none.
-/
import Derived.Test.YtjcmalmcijpnnaaDoorChkX
import Derived.Test.YtjcmalmcijpnnaaDoorChkT
import Derived.Test.YtjcmalmcijpnnaaDoorChkK
import Derived.Test.YtjcmalmcijpnnaaDoorAplX
import Derived.RangeFuncNested
import Derived.RangeFuncBound
import Derived.RangeFuncCalls
import Derived.RangeFuncLeaves
import Derived.Test.YtjcmalmcijpnnaaDoorBfsX
import Derived.Test.YtjcmalmcijpnnaaDoorEngY

namespace Go.Eng
open Go.RowKit Go.Proofs Go.Proofs.YtjcmalmcijpnnaaDoor

theorem grownBy_set (w : World) (p : Addr) (v : Value) : w.grownBy (w.setCell p v) (some p.block) :=
  ⟨rfl, rfl, rfl, by simp [World.setCell], fun k _ hk => Below.heap_setCell w p v k (fun e => hk (by rw [e]))⟩
theorem Below.grownBy {w w' : World} (h : Below w.heap.size w w') : w.grownBy w' none := ⟨h.os, h.tape, h.output, h.size, fun k hk _ => h.block k hk⟩
theorem ownsRow_below {w w' : World} {base : Nat} {e : TypeId} {size n : Nat} {v : Value} {xs : List Value} (h : w.ownsRow base e size v n xs) (hb : Below w.heap.size w w') : w'.ownsRow base e size v n xs :=
  h.kept (Below.grownBy hb) (by cases v.ownBlock <;> simp)
theorem drewN_below (w : World) (m : Nat) : Below w.heap.size w (w.drewN m) := ⟨rfl, rfl, rfl, Nat.le_refl _, fun _ _ => rfl⟩
theorem drew_below (w : World) : Below w.heap.size w w.drew := ⟨rfl, rfl, rfl, Nat.le_refl _, fun _ _ => rfl⟩
end Go.Eng

namespace Go.Eng
open Go.RowKit Go.Proofs Go.Proofs.YtjcmalmcijpnnaaDoor
set_option maxRecDepth 100000

def TrzSays (M : Nat) (r : Option (AV × AH)) : Bool := match r with | some (.sc (.int .i64 v), _) => v == ((lowIx M : Nat) : Int) | _ => false
theorem trzSays_eq {M : Nat} {r : Option (AV × AH)} (h : TrzSays M r = true) : ∃ H', r = some (.sc (.int .i64 ((lowIx M : Nat) : Int)), H') := by
  unfold TrzSays at h
  split at h
  · rename_i v H'
    rw [beq_iff_eq] at h
    exact ⟨H', by rw [h]⟩
  · cases h
theorem trz_run : ((List.range 512).all fun M => M == 0 || TrzSays M ((cb Tryd.prog [0, 1] 60).call 75 (.cons (.sc (.int .u64 (M : Int))) .nil) (tabs db32 db64))) = true := by kernel_rfl

theorem trz_calls {w : World} (h : TabsIn w) {M : Nat} (h0 : 0 < M) (hM : M < 512) : CallsIn Fence.wide 0 Tryd.prog 75 #[.int .u64 (M : Int)] w fun e w' => e = .returned (.int .i64 ((lowIx M : Nat) : Int)) ∧ Below w.heap.size w w' := by
  refine (callsIn_wide (n := 0)).2 ?_
  obtain ⟨t0, t1, f0, f1, h0', h1⟩ := h
  have hq := List.all_eq_true.1 trz_run M (List.mem_range.2 hM)
  simp only [Bool.or_eq_true, beq_iff_eq] at hq
  obtain ⟨H', hr⟩ := trzSays_eq (hq.resolve_left (by omega))
  refine (calls_of_run follows namesOK hr (tabs_rep h0' h1) (by exact LR.cons rfl rfl)).mono ?_
  rintro e w' ⟨x, μ', rfl, _, hx, hrep⟩
  have hx' : x = .int .i64 ((lowIx M : Nat) : Int) := hx
  exact ⟨by rw [hx'], hrep.below⟩

/-- One place less. -/
def dropLow (M : Nat) : Nat := M - 2 ^ lowIx M
theorem drop_low {M : Nat} (h0 : 0 < M) (h : M < 512) : bits .and .i64 (M : Int) ((M : Int) - 1) = ((dropLow M : Nat) : Int) ∧ dropLow M < M ∧ M.testBit (lowIx M) = true ∧ lowIx M < 9 ∧ ∀ j, j < 9 → (dropLow M).testBit j = (M.testBit j && !(j == lowIx M)) := by
  have q : ((List.range 512).all fun M => M == 0 || (decide (bits .and .i64 (M : Int) ((M : Int) - 1) = ((dropLow M : Nat) : Int)) && (decide (dropLow M < M) && (M.testBit (lowIx M) && (decide (lowIx M < 9) && (List.range 9).all fun j => (dropLow M).testBit j == (M.testBit j && !(j == lowIx M))))))) = true := by kernel_rfl
  have q1 := List.all_eq_true.1 q M (List.mem_range.2 h)
  simp only [Bool.or_eq_true, Bool.and_eq_true, beq_iff_eq, decide_eq_true_eq, List.all_eq_true, List.mem_range] at q1
  rcases q1 with q1 | ⟨a, b, c, d, e⟩
  · omega
  · exact ⟨a, b, c, d, e⟩
end Go.Eng

namespace Go.Eng
open Go.RowKit Go.Proofs Go.Proofs.YtjcmalmcijpnnaaDoor
attribute [local go_sem] Oper.semAt_some

theorem anyN {n : Nat} {P : Program} {f : FuncId} {args : Array Value} {w : World} {R : Ending → World → Prop} (h : CallsIn Fence.wide 0 P f args w R) : CallsIn Fence.wide n P f args w R := callsIn_wide.2 (callsIn_wide.1 h)

/-- The places to which the hole can move. -/
abbrev Nb (N M : Nat) : Type := { t : Nat // t < N ∧ M.testBit t = true }
def nbV (z : Nat → Int) (h : Nat) {N M : Nat} (x : Nb N M) : Array Value := #[.int .i64 ((x.1 : Nat) : Int), .agg (pos9 (swapAt z h x.1))]
/-- What a round must keep for the iterator: the tables and its own position. -/
def Kp3 (b : Nat) (W W' : World) : Prop := W.heap.size ≤ W'.heap.size ∧ ∀ k, k = 0 ∨ k = 1 ∨ k = b → W'.heap[k]? = W.heap[k]?
theorem Kp3.refl (b : Nat) (W : World) : Kp3 b W W := ⟨Nat.le_refl _, fun _ _ => rfl⟩
theorem Kp3.trans {b : Nat} {A B C : World} (h : Kp3 b A B) (k : Kp3 b B C) : Kp3 b A C := ⟨Nat.le_trans h.1 k.1, fun i hi => (k.2 i hi).trans (h.2 i hi)⟩
theorem Kp3.below {b : Nat} {W W' : World} (hb : b < W.heap.size) (h2 : 2 ≤ W.heap.size) (h : Below W.heap.size W W') : Kp3 b W W' := ⟨h.size, fun k hk => h.block k (by rcases hk with rfl | rfl | rfl <;> omega)⟩
theorem Kp3.put {b : Nat} {w : World} (h2 : 2 ≤ w.heap.size) (hb : b < w.heap.size) (W : World) (l : Nat) (o o' : Obj) (hl : w.heap.size ≤ l) (h : W.heap[l]? = some o) (_ : o.isCells = false) (_ : o.isWalk = false) : Kp3 b W (W.putObj l o') :=
  ⟨(grownBy_putObj' W l o').size, fun k hk => World.putObj_heap_other (by rcases hk with rfl | rfl | rfl <;> omega)⟩
theorem TabsIn.lt {w : World} (h : TabsIn w) : 2 ≤ w.heap.size := by
  obtain ⟨_, _, _, _, _, h1⟩ := h
  have := (Array.getElem?_eq_some_iff.1 h1).1
  omega
theorem TabsIn.kp {b : Nat} {w w' : World} (h : TabsIn w) (hk : Kp3 b w w') : TabsIn w' := by
  obtain ⟨t0, t1, f0, f1, h0, h1⟩ := h
  exact ⟨t0, t1, f0, f1, (hk.2 0 (.inl rfl)).trans h0, (hk.2 1 (.inr (.inl rfl))).trans h1⟩
/-- A block is a position's box. -/
def PosBox (W : World) (b : Nat) (z : Nat → Int) : Prop := W.heap[b]? = some (.cells (pos9 z) 83 (0, 0))
theorem PosBox.lt {W : World} {b : Nat} {z : Nat → Int} (h : PosBox W b z) : b < W.heap.size := (Array.getElem?_eq_some_iff.1 h).1
theorem PosBox.kept {W W' : World} {b : Nat} {z : Nat → Int} (h : PosBox W b z) (e : W'.heap[b]? = W.heap[b]?) : PosBox W' b z := e.trans h
theorem PosBox.below {W W' : World} {b : Nat} {z : Nat → Int} (h : PosBox W b z) (hb : Below W.heap.size W W') : PosBox W' b z := h.kept (hb.block b h.lt)
theorem PosBox.cell {W : World} {b : Nat} {z : Nat → Int} (h : PosBox W b z) : ∀ i, i < 9 → W.cell? ⟨b, i, none⟩ = some (.int .i8 (z i)) := fun i hi => by
  rw [World.cell?, show W.heap[b]? = _ from h]
  exact pos9_at z hi

theorem Below.grow0 {w w' : World} (h : Below w.heap.size w w') : w.grownBy w' none := ⟨h.os, h.tape, h.output, h.size, fun k hk _ => h.block k hk⟩
theorem abides_below {β : Type} {B : Nat} {J : β → World → Prop} (h : AbidesFrom B J) {s : β} {W W' : World} (hj : J s W) (hb : Below W.heap.size W W') : J s W' := h s W W' none hj (Below.grow0 hb) (fun r e => by cases e)

set_option maxRecDepth 100000 in
set_option maxHeartbeats 4000000 in
/-- **'moves$1': FOR EVERY LOOP BODY THAT KEEPS THE TABLES AND THE POSITION.** -/
theorem moves1_in (n l b1 b2 g N M : Nat) (nx : Nat → Nat) (z : Nat → Int) (h : Nat) (hN : 2 ≤ N ∧ N ≤ 9) (hz : PosZ z N h) (hMe : nx h = M) (hM : M < 512) (hMN : ∀ j, M.testBit j = true → j < N) (B0 : Nat) (J Jx : List (Nb N M) → World → Prop) (W : World) (hJ : AbidesFrom B0 J) (hJx : AbidesFrom B0 Jx)
    (hY : ∀ pre x W1, J pre W1 → pre.length < 512 → YieldAt Fence.wide (n - 1) Tryd.prog l (nbV z h x) W1 fun e W' =>
      (e = .returned (.bool true) ∧ J (pre ++ [x]) W' ∧ Kp3 b2 W1 W') ∨ (e = .returned (.bool false) ∧ Jx (pre ++ [x]) W'))
    (hT : TabsIn W) (hb1 : W.cell? ⟨b1, 0, none⟩ = some (.pointer (some ⟨g, 0, none⟩))) (hb2 : PosBox W b2 z) (hg : BoardAt W g N nx) (h0 : J [] W) :
    CallsIn Fence.wide n Tryd.prog 74 #[.func (.yield l) #[] #[], .pointer (some ⟨b1, 0, none⟩), .pointer (some ⟨b2, 0, none⟩)] W fun e W' => (∃ v, e = .returned v) ∧
      ((∃ xs : List (Nb N M), (∀ t, t < N → M.testBit t = true → ∃ x ∈ xs, x.1 = t) ∧ J xs W') ∨ (∃ pre, True ∧ Jx pre W')) := by
  have HY := Hid.intro hY
  have HJ := Hid.intro hJ
  have HMN := Hid.intro hMN
  have hT2 := hT.lt
  have HT := Hid.intro hT
  have HB2 := Hid.intro hb2
  have hb2l := hb2.lt
  have hh := hz.lt
  have hgl : g < W.heap.size := World.block_lt_of_cell? _ _ hg.n
  have hb1l : b1 < W.heap.size := World.block_lt_of_cell? _ _ hb1
  have HHo : Hid (∀ w', Below W.heap.size W w' → CallsIn Fence.wide 0 Tryd.prog 58 #[.pointer (some ⟨g, 0, none⟩), .agg (pos9 z)] w' fun e w'' => e = .returned (.int .i64 (h : Int)) ∧ Below w'.heap.size w' w'') := fun w' hb =>
    hole_calls w' g N hN ((hb.cell (p := ⟨g, 0, none⟩) hgl).trans hg.n) (Nat.lt_of_lt_of_le hgl hb.size) z h hz.lt hz.zero (fun i hi => hz.only i (by have := hz.lt; omega) (by omega))
  have hgc : W.cell? ⟨g, 1 + h, none⟩ = some (.int .i64 (M : Int)) := by rw [hg.next h (by omega), hMe]
  have hh := hz.lt
  have c0 := hb2.cell 0 (by omega)
  have c1 := hb2.cell 1 (by omega)
  have c2 := hb2.cell 2 (by omega)
  have c3 := hb2.cell 3 (by omega)
  have c4 := hb2.cell 4 (by omega)
  have c5 := hb2.cell 5 (by omega)
  have c6 := hb2.cell 6 (by omega)
  have c7 := hb2.cell 7 (by omega)
  have c8 := hb2.cell 8 (by omega)
  have H0 := Hid.intro h0
  clear hz hY hJ hJx hg hMN hT hb2 h0 hMe
  refine callsIn_of_wp Tryd.func74 rfl trivial ?_ rfl
  simp only [Tryd.ntmps74, List.size_toArray, List.length_cons, List.length_nil, Nat.reduceAdd, Nat.reduceSub, Array.replicate_succ, Array.replicate_zero, List.push_toArray, List.append_toArray, List.nil_append, List.cons_append]
  gi_wp2_with (gi_at_call 58; refine (anyN (HHo.out _ (Below.refl _ _))).mono ?_; rintro e w1 ⟨rfl, hB1⟩; have HBB1 := Hid.intro hB1; have cg := (hB1.cell (p := ⟨g, 1 + h, none⟩) hgl).trans hgc; have cb1 := (hB1.cell (p := ⟨b1, 0, none⟩) hb1l).trans hb1; clear hB1)
  clear c0 c1 c2 c3 c4 c5 c6 c7 c8 hb1 hgc cg cb1
  gi_loopw [5] (fun s wr => ∃ (S : Nat) (pre : List (Nb N M)), s = .int .i64 (S : Int) ∧ pre.length + S ≤ M ∧ Hid (∀ j, j < 9 → (M.testBit j = true ↔ S.testBit j = true ∨ ∃ x ∈ pre, x.1 = j)) ∧ Hid (J pre wr) ∧ Hid (Kp3 b2 W wr)) (fun s _ => (intOf s).toNat)
  case atStart => exact ⟨M, [], rfl, by simp, Hid.intro (fun j _ => by simp), Hid.intro (abides_below HJ.out H0.out HBB1.out), Hid.intro (Kp3.below hb2l hT2 HBB1.out)⟩
  case round =>
    obtain ⟨S, pre, rfl, hlen, HC, HJs, HK⟩ := hrel
    by_cases hS0 : S = 0
    · subst hS0
      gi_wp2
      go_end0
      exact ⟨⟨_, rfl⟩, .inl ⟨pre, fun t ht hb => by
        rcases (HC.out t (by omega)).1 hb with h | h
        · simp at h
        · exact h, HJs.out⟩⟩
    · have hS : S < 512 := by omega
      have hlow := drop_low (show 0 < S by omega) hS
      have HTz := Hid.intro (trz_calls (HT.out.kp HK.out) (show 0 < S by omega) hS)
      obtain ⟨T, hTe⟩ : ∃ T, lowIx S = T := ⟨_, rfl⟩
      obtain ⟨S2, hS2⟩ : ∃ S2, dropLow S = S2 := ⟨_, rfl⟩
      rw [hTe] at HTz
      rw [hTe, hS2] at hlow
      obtain ⟨hand, hdl, hbit, hT9, hdrop⟩ := hlow
      have HAND := Hid.intro hand
      have HDROP := Hid.intro hdrop
      have hMT : M.testBit T = true := (HC.out T hT9).2 (.inl hbit)
      have hTN : T < N := HMN.out T hMT
      have HMV := Hid.intro (fun w' => moved_calls w' z h T (by omega) hT9)
      have HK9 := Hid.intro (HB2.out.kept (HK.out.2 b2 (.inr (.inr rfl))))
      have hwr : W.heap.size ≤ wr.heap.size := HK.out.1
      clear hand hdrop hTe hS2
      gi_wp2_with (first
        | (gi_at_call 75; refine (anyN HTz.out).mono ?_; rintro e w1 ⟨rfl, hB1⟩; have HP1 := Hid.intro (HK9.out.below hB1); have HBB1' := Hid.intro hB1; have d0 := HP1.out.cell 0 (by omega); have d1 := HP1.out.cell 1 (by omega); have d2 := HP1.out.cell 2 (by omega); have d3 := HP1.out.cell 3 (by omega); have d4 := HP1.out.cell 4 (by omega); have d5 := HP1.out.cell 5 (by omega); have d6 := HP1.out.cell 6 (by omega); have d7 := HP1.out.cell 7 (by omega); have d8 := HP1.out.cell 8 (by omega); clear hB1)
        | (gi_at_call 59; refine (anyN (HMV.out _)).mono ?_; rintro e w2 ⟨rfl, hB2⟩; have HBB2 := Hid.intro (HBB1'.out.trans (hB2.mono HBB1'.out.size)); clear hB2; obtain ⟨fn, tmps, assign, body, hy, hR⟩ := HY.out pre ⟨T, hTN, hMT⟩ w2 (abides_below HJ.out HJs.out HBB2.out) (by omega); dsimp only [nbV] at hy))
      refine hR.mono ?_
      rintro e W3 (⟨rfl, hJ3, hk3⟩ | ⟨rfl, hJx3⟩)
      · gi_wp2
        refine ⟨⟨S2, pre ++ [⟨T, hTN, hMT⟩], by rw [HAND.out], by simp; omega, Hid.intro fun j hj => ?_, Hid.intro hJ3, Hid.intro ((HK.out.trans (Kp3.below (by omega) (by omega) HBB2.out)).trans hk3)⟩, by simp [intOf, HAND.out]; omega⟩
        rw [HC.out j hj, HDROP.out j hj]
        simp only [List.mem_append, List.mem_singleton, Bool.and_eq_true, Bool.not_eq_true', beq_eq_false_iff_ne]
        constructor
        · rintro (h1 | ⟨x, hx, e⟩)
          · by_cases e : j = T
            · exact .inr ⟨_, .inr rfl, e.symm⟩
            · exact .inl ⟨h1, e⟩
          · exact .inr ⟨x, .inl hx, e⟩
        · rintro (h1 | ⟨x, hx | rfl, e⟩)
          · exact .inl h1.1
          · exact .inr ⟨x, hx, e⟩
          · exact .inl (e ▸ hbit)
      · gi_wp2
        refine bodyPost_ret (results_none rfl _ _ _) rfl ?_
        exact ⟨⟨_, rfl⟩, .inr ⟨pre ++ [⟨T, hTN, hMT⟩], trivial, hJx3⟩⟩

/-- **'moves' hands back an iterator that keeps its contract.** -/
theorem moves_stops (n b1 b2 g N M : Nat) (nx : Nat → Nat) (z : Nat → Int) (h : Nat) (hN : 2 ≤ N ∧ N ≤ 9) (hz : PosZ z N h) (hMe : nx h = M) (hM : M < 512) (hMN : ∀ j, M.testBit j = true → j < N) (w : World)
    (hT : TabsIn w) (hb1 : w.cell? ⟨b1, 0, none⟩ = some (.pointer (some ⟨g, 0, none⟩))) (hb2 : PosBox w b2 z) (hg : BoardAt w g N nx) :
    SeqStopsK Fence.wide n Tryd.prog 74 #[.pointer (some ⟨b1, 0, none⟩), .pointer (some ⟨b2, 0, none⟩)] (nbV z h (N := N) (M := M)) (Kp3 b2) (fun xs => ∀ t, t < N → M.testBit t = true → ∃ x ∈ xs, x.1 = t) (fun _ => True) 512 w := fun l J Jx W hW hJ hJx hY h0 =>
  moves1_in n l b1 b2 g N M nx z h hN hz hMe hM hMN W.heap.size J Jx W hJ hJx hY (hT.below hW) ((hW.cell (p := ⟨b1, 0, none⟩) (World.block_lt_of_cell? _ _ hb1)).trans hb1) (hb2.below hW)
    ⟨(hW.cell (p := ⟨g, 0, none⟩) (World.block_lt_of_cell? _ _ hg.n)).trans hg.n, fun i hi => (hW.cell (p := ⟨g, 1 + i, none⟩) (show g < w.heap.size from World.block_lt_of_cell? _ _ hg.n)).trans (hg.next i hi)⟩ h0

set_option maxRecDepth 100000 in
set_option maxHeartbeats 4000000 in
/-- **'moves'.** -/
theorem moves_calls (w : World) (g : Nat) (z : Nat → Int) :
    CallsIn Fence.wide 0 Tryd.prog 72 #[.pointer (some ⟨g, 0, none⟩), .agg (pos9 z)] w fun e w' => e = .returned (.func (.func 74) #[] #[.pointer (some ⟨w.heap.size, 0, none⟩), .pointer (some ⟨w.heap.size + 1, 0, none⟩)]) ∧ w' = (w.alloc (.cells #[.pointer (some ⟨g, 0, none⟩)] 78)).alloc (.cells (pos9 z) 83) := by
  refine callsIn_of_wp Tryd.func72 rfl trivial ?_ rfl
  unfold pos9
  simp only [Tryd.ntmps72, List.size_toArray, List.length_cons, List.length_nil, Nat.reduceAdd, Nat.reduceSub, Array.replicate_succ, Array.replicate_zero, List.push_toArray, List.append_toArray, List.nil_append, List.cons_append]
  gi_wp2
  go_ret
  exact ⟨rfl, rfl⟩
end Go.Eng

namespace Go.Eng
open Go.RowKit Go.Proofs Go.Proofs.YtjcmalmcijpnnaaDoor

theorem under83 : Tryd.prog.underlying 83 = some (.array 9 81) := by kernel_rfl
theorem under81 : Tryd.prog.underlying 81 = some (.int .i8) := by kernel_rfl
theorem sizeT81 : sizeT Tryd.prog 81 = some 1 := by kernel_rfl
theorem under88 : Tryd.prog.underlying 88 = some (.map 83 107) := by kernel_rfl
theorem zero107 : (Tryd.prog.info? 107).bind (·.zero) = some (.agg #[.int .i8 0, .int .i8 0, .int .i8 0, .int .i8 0, .int .i8 0, .int .i8 0, .int .i8 0, .int .i8 0, .int .i8 0, .int .i64 0]) := by kernel_rfl

/-- A position as a key. -/
def avk (z : Nat → Int) : AV := .agg (.cons (.sc (.int .i8 (z 0))) (.cons (.sc (.int .i8 (z 1))) (.cons (.sc (.int .i8 (z 2))) (.cons (.sc (.int .i8 (z 3))) (.cons (.sc (.int .i8 (z 4))) (.cons (.sc (.int .i8 (z 5))) (.cons (.sc (.int .i8 (z 6))) (.cons (.sc (.int .i8 (z 7))) (.cons (.sc (.int .i8 (z 8))) .nil)))))))))
theorem avk_VR (z : Nat → Int) : VR (fun _ => none) (avk z) (.agg (pos9 z)) :=
  ⟨pos9 z, rfl, LR.cons rfl (LR.cons rfl (LR.cons rfl (LR.cons rfl (LR.cons rfl (LR.cons rfl (LR.cons rfl (LR.cons rfl (LR.cons rfl rfl))))))))⟩
theorem avk_fits (z : Nat → Int) : keyFits Tryd.prog 83 (avk z) = true := by
  unfold keyFits avk
  simp [under83, under81, sizeT81, AV.len, allInts, beqK_self]
/-- Two positions are the same. -/
def same9 (z z' : Nat → Int) : Bool := (avk z).beq (avk z')
theorem same9_iff {z z' : Nat → Int} : same9 z z' = true ↔ ∀ i, i < 9 → z i = z' i := by
  constructor
  · intro h i hi
    have h1 := AV.beq_eq h
    unfold avk at h1
    injection h1 with h1
    injection h1 with a0 h1
    injection h1 with a1 h1
    injection h1 with a2 h1
    injection h1 with a3 h1
    injection h1 with a4 h1
    injection h1 with a5 h1
    injection h1 with a6 h1
    injection h1 with a7 h1
    injection h1 with a8 h1
    have : i = 0 ∨ i = 1 ∨ i = 2 ∨ i = 3 ∨ i = 4 ∨ i = 5 ∨ i = 6 ∨ i = 7 ∨ i = 8 := by omega
    rcases this with rfl | rfl | rfl | rfl | rfl | rfl | rfl | rfl | rfl
    all_goals simp_all
  · intro h
    have e : avk z = avk z' := by
      unfold avk
      rw [h 0 (by omega), h 1 (by omega), h 2 (by omega), h 3 (by omega), h 4 (by omega), h 5 (by omega), h 6 (by omega), h 7 (by omega), h 8 (by omega)]
    unfold same9
    rw [e]
    simp [avk, AV.beq, Sc.beq, beqK_self, beqI_iff]

/-- What is known of a position: the one before it, and the number of moves. -/
structure Known where
  at_ : Nat → Int
  before : Nat → Int
  depth : Nat
def stepV (b : Nat → Int) (d : Int) : Value := .agg #[.int .i8 (b 0), .int .i8 (b 1), .int .i8 (b 2), .int .i8 (b 3), .int .i8 (b 4), .int .i8 (b 5), .int .i8 (b 6), .int .i8 (b 7), .int .i8 (b 8), .int .i64 d]

def entOf (e : MapEntry) : Value × Value := (e.key, e.val)
def entK (k : Known) : Value × Value := (.agg (pos9 k.at_), stepV k.before k.depth)
/-- A block is a map with these entries. -/
def MapAt (w : World) (m : Nat) (es : List Known) : Prop := ∃ en clock, w.heap[m]? = some (.map en clock) ∧ en.toList.map entOf = es.map entK

def lookK : List Known → (Nat → Int) → Option Known
  | [], _ => none
  | k :: r, z => if same9 z k.at_ = true then some k else lookK r z
theorem lookK_none {es : List Known} {z : Nat → Int} : lookK es z = none ↔ ∀ k ∈ es, same9 z k.at_ = false := by
  induction es with
  | nil => simp [lookK]
  | cons k r ih =>
    simp only [lookK]
    by_cases h : same9 z k.at_ = true
    · simp [h]
    · simp only [h, Bool.false_eq_true, if_false, ih, List.mem_cons, forall_eq_or_imp]
      simp [Bool.not_eq_true _ ▸ h]
theorem lookK_some {es : List Known} {z : Nat → Int} {k : Known} (h : lookK es z = some k) : k ∈ es ∧ same9 z k.at_ = true := by
  induction es with
  | nil => simp [lookK] at h
  | cons q r ih =>
    simp only [lookK] at h
    by_cases hq : same9 z q.at_ = true
    · rw [if_pos hq] at h; cases h; exact ⟨by simp, hq⟩
    · rw [if_neg hq] at h; exact ⟨by simp [(ih h).1], (ih h).2⟩

theorem asking_go {P : Program} {kt : TypeId} {z : Nat → Int} (hf : ∀ z, keyFits P kt (avk z) = true) (w : World) : ∀ (l : List MapEntry) (es : List Known) (i : Nat), l.map entOf = es.map entK →
    ∃ res, (Instr.findAsking kt (.agg (pos9 z)) l i).run P w = .ok res w ∧ (match lookK es z with | none => res = none | some k => ∃ j, res = some (j, stepV k.before k.depth))
  | [], [], i, _ => ⟨none, rfl, rfl⟩
  | [], _ :: _, _, h => by simp at h
  | _ :: _, [], _, h => by simp at h
  | e :: r, k :: ks, i, h => by
    simp only [List.map_cons, List.cons.injEq] at h
    obtain ⟨h1, h2⟩ := h
    simp only [entOf, entK, Prod.mk.injEq] at h1
    obtain ⟨hk, hv⟩ := h1
    have heq : (Op.equal kt (.agg (pos9 z)) e.key).run P w = .ok (same9 z k.at_) w := by
      rw [hk]
      exact equal_run (hf z) (hf k.at_) (avk_VR z) (avk_VR k.at_) 9998 w
    simp only [lookK]
    cases hs : same9 z k.at_ with
    | true =>
      rw [hs] at heq
      exact ⟨some (i, e.val), by simp [Instr.findAsking, heq], ⟨i, by rw [hv]⟩⟩
    | false =>
      rw [hs] at heq
      obtain ⟨res, h3, h4⟩ := asking_go (z := z) hf w r ks (i + 1) h2
      exact ⟨res, by simp [Instr.findAsking, heq, h3], by simpa using h4⟩

theorem find_go {z : Nat → Int} (w : World) {l : List MapEntry} {es : List Known} (h : l.map entOf = es.map entK) :
    ∃ res, (Instr.findKey 83 (.agg (pos9 z)) l).run Tryd.prog w = .ok res w ∧ (match lookK es z with | none => res = none | some k => ∃ j, res = some (j, stepV k.before k.depth)) := by
  obtain ⟨res, h1, h2⟩ := asking_go (P := Tryd.prog) (kt := 83) (z := z) avk_fits w l es 0 h
  refine ⟨res, ?_, h2⟩
  simp only [Instr.findKey, Sem.run_bind, run_underlying under83, Result.andThen_ok]
  cases l with
  | nil => simpa [Instr.findNow, Instr.findAsking] using h1
  | cons e r => simpa [Instr.findNow, Instr.sameNow] using h1

theorem check_go (z : Nat → Int) (em : Bool) (w : World) : (Instr.checkKey em 10000 83 (.agg (pos9 z))).run Tryd.prog w = .ok () w := checkKey_run (avk_fits z) (avk_VR z) em w

theorem getObj_go {P : Program} {w : World} {m : Nat} {en : Array MapEntry} {cl : Nat} (h : w.heap[m]? = some (.map en cl)) : (getObj m).run P w = .ok (.map en cl) w := Go.MapKept.run_getObj_map h

/-- 'v, is := m[k]' of a key that is there. -/
theorem look_there {w : World} {m : Nat} {es : List Known} (h : MapAt w m es) {z : Nat → Int} {k : Known} (hk : lookK es z = some k) (c : Bool) :
    (Instr.lookup 88 (.map (some m)) (.agg (pos9 z)) c).run Tryd.prog w = .ok (bif c then .tuple #[stepV k.before k.depth, .bool true] else stepV k.before k.depth) w := by
  obtain ⟨en, cl, hb, he⟩ := h
  obtain ⟨res, h1, h2⟩ := find_go (z := z) w he
  rw [hk] at h2
  obtain ⟨j, rfl⟩ := h2
  simp only [Instr.lookup, Sem.run_bind, run_underlying under88, Result.andThen_ok, getObj_go hb, Sem.run_pure, check_go, h1]
  cases c <;> rfl

/-- .. of one that is not there. -/
theorem look_not {w : World} {m : Nat} {es : List Known} (h : MapAt w m es) {z : Nat → Int} (hk : lookK es z = none) (c : Bool) :
    (Instr.lookup 88 (.map (some m)) (.agg (pos9 z)) c).run Tryd.prog w = .ok (bif c then .tuple #[stepV (fun _ => 0) 0, .bool false] else stepV (fun _ => 0) 0) w := by
  obtain ⟨en, cl, hb, he⟩ := h
  obtain ⟨res, h1, h2⟩ := find_go (z := z) w he
  rw [hk] at h2
  subst h2
  have hz : (zeroValue 107).run Tryd.prog w = .ok (stepV (fun _ => 0) 0) w := by
    cases hi : Tryd.prog.info? 107 with
    | none => have := zero107; rw [hi] at this; cases this
    | some i =>
      have := zero107
      rw [hi] at this
      simp only [Option.bind_some] at this
      simp [zeroValue, typeInfo, hi, this, stepV]
  simp only [Instr.lookup, Sem.run_bind, run_underlying under88, Result.andThen_ok, getObj_go hb, Sem.run_pure, check_go, h1, hz]
  cases c <;> rfl

theorem setObj_go {P : Program} {w : World} {m : Nat} {en : Array MapEntry} {cl : Nat} (h : w.heap[m]? = some (.map en cl)) (o : Obj) : (setObj m o).run P w = .ok () { w with heap := w.heap.setIfInBounds m o } := Go.MapKept.run_setObj_map o h

/-- 'm[k] = v' of a key that is not there. -/
theorem update_new {w : World} {m : Nat} {es : List Known} (h : MapAt w m es) {z b : Nat → Int} {d : Nat} (hk : lookK es z = none) :
    ∃ w', (Instr.mapUpdate 88 (.map (some m)) (.agg (pos9 z)) (stepV b d)).run Tryd.prog w = .ok () w' ∧ MapAt w' m (es ++ [⟨z, b, d⟩]) ∧ w.grownBy w' (some m) := by
  obtain ⟨en, cl, hb, he⟩ := h
  obtain ⟨res, h1, h2⟩ := find_go (z := z) w he
  rw [hk] at h2
  subst h2
  refine ⟨{ w with heap := w.heap.setIfInBounds m (.map (en.push { key := .agg (pos9 z), val := stepV b d, born := cl }) (cl + 1)) }, ?_, ⟨_, _, (Go.MapKept.heap_set hb).1, ?_⟩, ⟨rfl, rfl, rfl, by simp, fun k _ hk => (Go.MapKept.heap_set hb).2 k (fun e => hk (by rw [e]))⟩⟩
  · simp only [Instr.mapUpdate, Sem.run_bind, run_underlying under88, Result.andThen_ok, getObj_go hb, check_go, h1, setObj_go hb]
  · simp [he, entOf, entK]

theorem MapAt.kept {w w' : World} {m : Nat} {es : List Known} (h : MapAt w m es) (hb : w'.heap[m]? = w.heap[m]?) : MapAt w' m es := by
  obtain ⟨en, cl, h1, h2⟩ := h
  exact ⟨en, cl, hb.trans h1, h2⟩
theorem MapAt.lt {w : World} {m : Nat} {es : List Known} (h : MapAt w m es) : m < w.heap.size := by
  obtain ⟨en, cl, h1, h2⟩ := h
  exact (Array.getElem?_eq_some_iff.1 h1).1
theorem MapAt.size {w : World} {m : Nat} {es : List Known} (h : MapAt w m es) : ∃ en cl, w.heap[m]? = some (.map en cl) ∧ en.size = es.length := by
  obtain ⟨en, cl, h1, h2⟩ := h
  refine ⟨en, cl, h1, ?_⟩
  have := congrArg List.length h2
  simpa using this
end Go.Eng

namespace Go.Eng
open Go.RowKit Go.Proofs Go.Proofs.YtjcmalmcijpnnaaDoor

def flatP (L : List (Nat → Int)) : List Value := L.flatMap fun z => (pos9 z).toList
theorem flatP_len (L : List (Nat → Int)) : (flatP L).length = L.length * 9 := by
  induction L with
  | nil => rfl
  | cons z L ih => unfold flatP at ih ⊢; rw [List.flatMap_cons, List.length_append, ih, List.length_cons]; simp [pos9]; omega

/-- A wave in memory. -/
structure WaveAt (base gb g m : Nat) (ve : Value) (es : List Known) (L : List (Nat → Int)) (W : World) : Prop where
  lo : base ≤ g ∧ base ≤ m
  st : W.heap[g]? = some (.cells #[.pointer (some ⟨gb, 0, none⟩), .map (some m), ve] 91 (0, 0))
  map : MapAt W m es
  row : W.ownsRow base 83 9 ve L.length (flatP L)

theorem drewN_below0 (w : World) : Below w.heap.size w w.drew := ⟨rfl, rfl, rfl, Nat.le_refl _, fun _ _ => rfl⟩
theorem map_new (w : World) : MapAt (w.alloc (.map #[] 0)).drew w.heap.size [] := ⟨#[], 0, World.alloc_heap_new _ _, rfl⟩
theorem map_old (w : World) (o : Obj) : MapAt ((w.alloc (.map #[] 0)).alloc o).drew w.heap.size [] := ⟨#[], 0, (Below.heap_alloc _ _ _ (by simp)).trans (World.alloc_heap_new _ _), rfl⟩
theorem row_new (w : World) (z : Nat → Int) : (w.alloc (.cells (pos9 z) 83)).ownsRow w.heap.size 83 9 (.slice (some ⟨w.heap.size, 0, none⟩) 1 1) 1 (flatP [z]) :=
  ⟨rfl, .inr ⟨w.heap.size, 1, pos9 z, rfl, Nat.le_refl _, World.alloc_heap_new _ _, Nat.le_refl _, by unfold maxLen; decide, rfl, rfl⟩⟩
theorem row_base {w : World} {b b' size n : Nat} {e : TypeId} {v : Value} {xs : List Value} (h : w.ownsRow b e size v n xs) (hb : b' ≤ b) : w.ownsRow b' e size v n xs := by
  refine ⟨h.1, ?_⟩
  rcases h.2 with h | ⟨g, cap, cur, h1, h2, h3⟩
  · exact .inl h
  · exact .inr ⟨g, cap, cur, h1, by omega, h3⟩
theorem WaveAt.mk0 {base gb g m r : Nat} {z : Nat → Int} {W : World} (hlo : base ≤ g ∧ base ≤ m ∧ base ≤ r) (hst : W.heap[g]? = some (.cells #[.pointer (some ⟨gb, 0, none⟩), .map (some m), .slice (some ⟨r, 0, none⟩) 1 1] 91 (0, 0))) (hm : MapAt W m [⟨z, z, 0⟩]) (hr : W.heap[r]? = some (.cells (pos9 z) 83 (0, 0))) :
    WaveAt base gb g m (.slice (some ⟨r, 0, none⟩) 1 1) [⟨z, z, 0⟩] [z] W :=
  ⟨⟨hlo.1, hlo.2.1⟩, hst, hm, rfl, .inr ⟨r, 1, pos9 z, rfl, hlo.2.2, hr, Nat.le_refl _, by unfold maxLen; decide, rfl, rfl⟩⟩

set_option maxRecDepth 100000 in
set_option maxHeartbeats 4000000 in
/-- **'newWave'.** -/
theorem newWave_calls (w : World) (gb : Nat) (z : Nat → Int) :
    CallsIn Fence.wide 0 Tryd.prog 50 #[.pointer (some ⟨gb, 0, none⟩), .agg (pos9 z)] w fun e w' => ∃ g m ve, e = .returned (.pointer (some ⟨g, 0, none⟩)) ∧ WaveAt w.heap.size gb g m ve [⟨z, z, 0⟩] [z] w' ∧ Below w.heap.size w w' := by
  refine callsIn_of_wp Tryd.func50 rfl trivial ?_ rfl
  have HB1 : Hid (Below w.heap.size w (w.alloc (.cells (pos9 z) 83))) := (Below.refl _ _).alloc (Nat.le_refl _) _
  have hp : PosBox (w.alloc (.cells (pos9 z) 83)) w.heap.size z := World.alloc_heap_new _ _
  unfold pos9
  simp only [Tryd.ntmps50, List.size_toArray, List.length_cons, List.length_nil, Nat.reduceAdd, Nat.reduceSub, Array.replicate_succ, Array.replicate_zero, List.push_toArray, List.append_toArray, List.nil_append, List.cons_append]
  obtain ⟨W1, hW1⟩ : ∃ W1, W1 = w.alloc (.cells (pos9 z) 83) := ⟨_, rfl⟩
  have hW1' := hW1
  have hsz : W1.heap.size = w.heap.size + 1 := by rw [hW1]; simp
  unfold pos9 at hW1'
  gi_wp2
  rw [← hW1']
  rw [← hW1] at hp HB1
  clear hW1 hW1'
  have c0 := hp.cell 0 (by omega)
  have c1 := hp.cell 1 (by omega)
  have c2 := hp.cell 2 (by omega)
  have c3 := hp.cell 3 (by omega)
  have c4 := hp.cell 4 (by omega)
  have c5 := hp.cell 5 (by omega)
  have c6 := hp.cell 6 (by omega)
  have c7 := hp.cell 7 (by omega)
  have c8 := hp.cell 8 (by omega)
  have hmm := @run_makeMap Tryd.prog
  have hbW := HB1.out.size
  obtain ⟨WA, hA, hAm, hAg⟩ := update_new (b := z) (d := 0) (map_new W1) (z := z) rfl
  obtain ⟨WB, hB, hBm, hBg⟩ := update_new (b := z) (d := 0) (map_old W1 (.cells (pos9 z) 83)) (z := z) rfl
  obtain ⟨WC, hC, hCm, hCg⟩ := update_new (b := z) (d := 0) (map_new (W1.alloc (.cells (pos9 z) 83))) (z := z) rfl
  have ka : ∀ k, k < w.heap.size + 1 → WA.heap[k]? = W1.heap[k]? := fun k hk => (hAg.block k (by simp [World.drew]; omega) (by simp; omega)).trans (Below.heap_alloc _ _ _ (by omega))
  have hpA : PosBox WA w.heap.size z := hp.kept (ka _ (by omega))
  have a0 := hpA.cell 0 (by omega)
  have a1 := hpA.cell 1 (by omega)
  have a2 := hpA.cell 2 (by omega)
  have a3 := hpA.cell 3 (by omega)
  have a4 := hpA.cell 4 (by omega)
  have a5 := hpA.cell 5 (by omega)
  have a6 := hpA.cell 6 (by omega)
  have a7 := hpA.cell 7 (by omega)
  have a8 := hpA.cell 8 (by omega)
  have sA : w.heap.size + 1 + 1 ≤ WA.heap.size := by have := hAg.size; simp [World.drew] at this; omega
  unfold pos9 at hA hB hC
  unfold stepV at hA hB hC
  simp only [World.size_alloc, hsz, Int.cast_ofNat_Int] at hA hB hC hAm hBm hCm hAg hBg hCg
  have HAm := Hid.intro hAm
  have HBm := Hid.intro hBm
  have HCm := Hid.intro hCm
  have HAg := Hid.intro hAg
  have HBg := Hid.intro hBg
  have HCg := Hid.intro hCg
  have HKA := Hid.intro ka
  have HP := Hid.intro hp
  clear hp hpA ka hAm hBm hCm hAg hBg hCg
  have HBA : Hid (Below w.heap.size w WA) := ((HB1.out.alloc hbW _).trans ((drewN_below0 _).mono (by simp; omega))).grown HAg.out (by simp [World.drew]; omega) (fun k e => by cases e; omega)
  have HBB : Hid (Below w.heap.size w WB) := (((HB1.out.alloc hbW _).alloc (by simp; omega) _).trans ((drewN_below0 _).mono (by simp; omega))).grown HBg.out (by simp [World.drew]; omega) (fun k e => by cases e; omega)
  have HBC : Hid (Below w.heap.size w WC) := (((HB1.out.alloc hbW _).alloc (by simp; omega) _).trans ((drewN_below0 _).mono (by simp; omega))).grown HCg.out (by simp [World.drew]; omega) (fun k e => by cases e; omega)
  have sB : w.heap.size + 1 + 1 + 1 ≤ WB.heap.size := by have := HBg.out.size; simp [World.drew] at this; omega
  have sC : w.heap.size + 1 + 1 + 1 ≤ WC.heap.size := by have := HCg.out.size; simp [World.drew] at this; omega
  have HrB : Hid (WB.heap[w.heap.size + 1 + 1]? = some (.cells (pos9 z) 83 (0, 0))) := by
    refine (HBg.out.block _ (by simp [World.drew]; omega) (by simp)).trans ?_
    have := World.alloc_heap_new (W1.alloc (.map #[] 0)) (.cells (pos9 z) 83)
    rw [World.size_alloc, hsz] at this
    exact this
  have HrC : Hid (WC.heap[w.heap.size + 1]? = some (.cells (pos9 z) 83 (0, 0))) := by
    refine (HCg.out.block _ (by simp [World.drew]; omega) (by simp)).trans ?_
    have := World.alloc_heap_new W1 (.cells (pos9 z) 83)
    rw [hsz] at this
    exact (Below.heap_alloc _ _ _ (by simp; omega)).trans this
  gi_region
  · gi_wp2
    all_goals (first | go_returns | go_ret | go_end0)
    refine ⟨WA.heap.size + 1, w.heap.size + 1, _, rfl, WaveAt.mk0 (r := WA.heap.size) ⟨by omega, by omega, by omega⟩ ?_ ?_ ?_, (HBA.out.alloc HBA.out.size _).alloc (by simp; omega) _⟩
    · have := World.alloc_heap_new (WA.alloc (.cells (pos9 z) 83)) (.cells #[.pointer (some ⟨gb, 0, none⟩), .map (some (w.heap.size + 1)), .slice (some ⟨WA.heap.size, 0, none⟩) 1 1] 91)
      rw [World.size_alloc] at this
      exact this
    · exact (HAm.out.kept (Below.heap_alloc _ _ _ (by omega))).kept (Below.heap_alloc _ _ _ (by simp; omega))
    · exact (Below.heap_alloc _ _ _ (by simp)).trans (World.alloc_heap_new WA (.cells (pos9 z) 83))
  · gi_wp2
    all_goals (first | go_returns | go_ret | go_end0)
    refine ⟨WB.heap.size, w.heap.size + 1, _, rfl, WaveAt.mk0 (r := w.heap.size + 1 + 1) ⟨by omega, by omega, by omega⟩ ?_ ?_ ?_, HBB.out.alloc HBB.out.size _⟩
    · exact World.alloc_heap_new WB _
    · exact HBm.out.kept (Below.heap_alloc _ _ _ (by omega))
    · exact (Below.heap_alloc _ _ _ (by omega)).trans HrB.out
  · gi_wp2
    all_goals (first | go_returns | go_ret | go_end0)
    refine ⟨WC.heap.size, w.heap.size + 1 + 1, _, rfl, WaveAt.mk0 (r := w.heap.size + 1) ⟨by omega, by omega, by omega⟩ ?_ ?_ ?_, HBC.out.alloc HBC.out.size _⟩
    · exact World.alloc_heap_new WC _
    · exact HCm.out.kept (Below.heap_alloc _ _ _ (by omega))
    · exact (Below.heap_alloc _ _ _ (by omega)).trans HrC.out
end Go.Eng

namespace Go.Eng
open Go.RowKit Go.Proofs Go.Proofs.YtjcmalmcijpnnaaDoor

/-! ### The marks of the rounds' deferred calls -/
def Mark (D : Nat) : Deferred := { target := .collected D, args := #[] }
def MarksAt (W : World) (B : Nat) (Ds : List Nat) : Prop := Ds.Nodup ∧ ∀ D ∈ Ds, B ≤ D ∧ W.heap[D]? = some (.deferred (some []))
structure Unmark (B : Nat) (W W' : World) : Prop where
  os : W'.os = W.os
  tape : W'.tape = W.tape
  output : W'.output = W.output
  size : W'.heap.size = W.heap.size
  low : ∀ k, k < B → W'.heap[k]? = W.heap[k]?
  cells : ∀ (k : Nat) (o : Obj), W.heap[k]? = some o → o.isCells = true → W'.heap[k]? = some o
theorem Unmark.refl (B : Nat) (W : World) : Unmark B W W := ⟨rfl, rfl, rfl, rfl, fun _ _ => rfl, fun _ _ h _ => h⟩

theorem leaves_marks {F : Fence} {n : Nat} {P : Program} {fn : Func} {tmps : Array Value} {R : Ending → World → Prop} {B : Nat} : ∀ (Ds : List Nat) (W : World), MarksAt W B Ds → (∀ W', Unmark B W W' → LeavesIn F n P fn tmps R [] .returning W') → LeavesInM F n P fn tmps R (Ds.map Mark) .returning W
  | [], W, _, h => h W (.refl B W)
  | D :: Ds, W, hM, h => by
    have hD := hM.2 D (by simp)
    refine ⟨by simp, .inl ⟨D, _, rfl, run_takeDeferred hD.2, ?_⟩⟩
    refine leaves_marks (B := B) Ds _ ⟨(List.nodup_cons.1 hM.1).2, fun D' hD' => ?_⟩ fun W' hW' => h W' ?_
    · have hne : D' ≠ D := fun e => (List.nodup_cons.1 hM.1).1 (e ▸ hD')
      have h2 := hM.2 D' (List.mem_cons_of_mem _ hD')
      exact ⟨h2.1, (World.putObj_heap_other hne).trans h2.2⟩
    · have hg := grownBy_putObj' W D (.deferred none)
      refine ⟨hW'.os.trans hg.os, hW'.tape.trans hg.tape, hW'.output.trans hg.output, hW'.size.trans (by simp [World.putObj]), fun k hk => (hW'.low k hk).trans (World.putObj_heap_other (by omega)), fun k o hk ho => hW'.cells k o ?_ ho⟩
      rw [World.putObj_heap_other (fun e => ?_)]
      · exact hk
      · subst e
        rw [hD.2] at hk
        cases hk
        cases ho

theorem MarksAt.grown {W W' : World} {B : Nat} {Ds : List Nat} {row : Option Nat} (h : MarksAt W B Ds) (hg : W.grownBy W' row) (hr : ∀ r, row = some r → ∃ o : Obj, W.heap[r]? = some o ∧ ∀ x, o ≠ .deferred x) : MarksAt W' B Ds := by
  refine ⟨h.1, fun D hD => ⟨(h.2 D hD).1, ?_⟩⟩
  have h2 := (h.2 D hD).2
  refine (hg.block D (Array.getElem?_eq_some_iff.1 h2).1 (fun e => ?_)).trans h2
  obtain ⟨o, ho, hne⟩ := hr D e.symm
  rw [h2] at ho
  cases ho
  exact hne _ rfl

/-! ### Memory -/
structure GrowAt (w : World) (g m : Nat) (es : List Known) (vn : Value) (ns : List Known) (wr : World) : Prop where
  keep : w.grownBy wr (some m)
  size : w.heap.size + 2 ≤ wr.heap.size
  box1 : Boxed wr w.heap.size 84 (.pointer (some ⟨g, 0, none⟩))
  box2 : Boxed wr (w.heap.size + 1) 89 vn
  row : wr.ownsRow (w.heap.size + 2) 83 9 vn ns.length (flatP (ns.map (·.at_)))
  map : MapAt wr m (es ++ ns)

theorem grownBy_trans_to {w wr w' : World} {m : Nat} {row : Option Nat} (h : w.grownBy wr (some m)) (hg : wr.grownBy w' row) (hr : ∀ k, row = some k → k = m ∨ w.heap.size ≤ k) : w.grownBy w' (some m) :=
  ⟨hg.os.trans h.os, hg.tape.trans h.tape, hg.output.trans h.output, Nat.le_trans h.size hg.size, fun k hk hne => (hg.block k (Nat.lt_of_lt_of_le hk h.size) (fun e => by
    rcases hr k e.symm with h1 | h1
    · exact hne (by rw [h1])
    · omega)).trans (h.block k hk hne)⟩

theorem GrowAt.step {w wr w' : World} {g m : Nat} {es ns : List Known} {vn : Value} {row : Option Nat} (h : GrowAt w g m es vn ns wr) (hm : m < w.heap.size) (hg : wr.grownBy w' row) (hr : ∀ k, row = some k → w.heap.size + 2 ≤ k ∧ vn.ownBlock ≠ some k) : GrowAt w g m es vn ns w' := by
  have hs := h.size
  refine ⟨grownBy_trans_to h.keep hg (fun k e => .inr (by have := (hr k e).1; omega)), Nat.le_trans h.size hg.size, h.box1.kept hg (fun e => by have := (hr _ e.symm).1; omega), h.box2.kept hg (fun e => by have := (hr _ e.symm).1; omega), h.row.kept hg ?_, h.map.kept (hg.block m (by omega) (fun e => by have := (hr _ e.symm).1; omega))⟩
  cases hv : vn.ownBlock with
  | none => exact .inl rfl
  | some b => exact .inr (fun e => (hr b e.symm).2 hv)
theorem GrowAt.later {w wr w' : World} {g m : Nat} {es ns : List Known} {vn : Value} (h : GrowAt w g m es vn ns wr) (hm : m < w.heap.size) (hb : Below wr.heap.size wr w') : GrowAt w g m es vn ns w' := h.step hm (Below.grow0 hb) (fun k e => by cases e)
theorem row_cells {w : World} {base size n : Nat} {e : TypeId} {v : Value} {xs : List Value} (h : w.ownsRow base e size v n xs) {b : Nat} (hv : v.ownBlock = some b) : ∃ cur, w.heap[b]? = some (.cells cur e (0, 0)) := by
  rcases h.2 with ⟨rfl, _⟩ | ⟨g, cap, cur, rfl, _, hg, _⟩
  · cases hv
  · simp [Value.ownBlock] at hv
    subst hv
    exact ⟨cur, hg⟩
theorem GrowAt.abide {w wr w' : World} {g m : Nat} {es ns : List Known} {vn : Value} {row : Option Nat} (h : GrowAt w g m es vn ns wr) (hm : m < w.heap.size) (hg : wr.grownBy w' row) (hr : ∀ r, row = some r → w.heap.size + 2 ≤ r ∧ ∃ o : Obj, wr.heap[r]? = some o ∧ o.isCells = false) : GrowAt w g m es vn ns w' :=
  h.step hm hg (fun k e => ⟨(hr k e).1, fun hv => by
    obtain ⟨cur, hc⟩ := row_cells h.row hv
    obtain ⟨_, o, ho, hf⟩ := hr k e
    rw [hc] at ho
    cases ho
    cases hf⟩)

/-- A position has come: the map and the row have grown. -/
theorem GrowAt.add {w wr w1 w2 : World} {g m : Nat} {es ns : List Known} {vn v2 : Value} {k : Known} {tmp : Obj} (h : GrowAt w g m es vn ns wr) (hm : m < w.heap.size) (hM : MapAt w1 m ((es ++ ns) ++ [k])) (hg : wr.grownBy w1 (some m))
    (hown : w2.ownsRow (w.heap.size + 2) 83 9 v2 (ns.length + 1) (flatP (ns.map (·.at_)) ++ (pos9 k.at_).toList)) (hg2 : (w1.alloc tmp).grownBy w2 vn.ownBlock) :
    Boxed w2 (w.heap.size + 1) 89 vn ∧ GrowAt w g m es v2 (ns ++ [k]) (w2.setCell ⟨w.heap.size + 1, 0, none⟩ v2) := by
  have hs := h.size
  have hs1 := hg.size
  have hs2 := hg2.size
  simp at hs2
  have hvb : ∀ b, vn.ownBlock = some b → w.heap.size + 2 ≤ b := fun b hb => (h.row.lt b hb).1
  have hb1 : Boxed w1 w.heap.size 84 (.pointer (some ⟨g, 0, none⟩)) := h.box1.kept hg (fun e => by cases e; omega)
  have hb2 : Boxed w1 (w.heap.size + 1) 89 vn := h.box2.kept hg (fun e => by cases e; omega)
  have hb1' : Boxed w2 w.heap.size 84 (.pointer (some ⟨g, 0, none⟩)) := (hb1.alloc tmp).kept hg2 (fun e => by have := hvb _ e.symm; omega)
  have hb2' : Boxed w2 (w.heap.size + 1) 89 vn := (hb2.alloc tmp).kept hg2 (fun e => by have := hvb _ e.symm; omega)
  have hk1 : w.grownBy w2 (some m) := grownBy_trans_to (grownBy_trans_to (grownBy_trans_to h.keep hg (fun k e => by cases e; exact .inl rfl)) (World.grownBy_alloc w1 tmp none) (fun k e => by cases e)) hg2 (fun k e => .inr (by have := hvb k e; omega))
  have hm2 : MapAt w2 m (es ++ (ns ++ [k])) := by
    rw [← List.append_assoc]
    refine (hM.kept (Below.heap_alloc w1 tmp m (by omega))).kept (hg2.block m (by simp; omega) (fun e => by have := hvb _ e.symm; omega))
  refine ⟨hb2', grownBy_trans_to hk1 (grownBy_setCell' w2 (w.heap.size + 1) v2) (fun k e => .inr (by cases e; omega)), by simp [World.setCell]; omega, hb1'.other (by omega) _, hb2'.set _, ?_, hm2.kept (Below.heap_setCell w2 ⟨w.heap.size + 1, 0, none⟩ v2 m (by show m ≠ w.heap.size + 1; omega))⟩
  rw [List.length_append, List.length_singleton, List.map_append]
  have e : flatP (ns.map (·.at_) ++ [k].map (·.at_)) = flatP (ns.map (·.at_)) ++ (pos9 k.at_).toList := by simp [flatP]
  rw [e]
  refine hown.kept (grownBy_setCell' w2 (w.heap.size + 1) v2) (.inr fun e => ?_)
  have := (hown.lt _ e).1
  omega

/-! ### The wave -/
def KnownOK (qs : List (Nat × Nat)) (N : Nat) (s : Nat → Int) (k : Known) : Prop :=
  DistE (Mov qs N) s k.depth k.at_ ∧ ((k.depth = 0 ∧ k.before = k.at_) ∨ ∃ d, k.depth = d + 1 ∧ DistE (Mov qs N) s d k.before ∧ Mov qs N k.before k.at_)
structure WaveOK (qs : List (Nat × Nat)) (N : Nat) (s : Nat → Int) (D : Nat) (es : List Known) (L : List (Nat → Int)) : Prop where
  pos : Pos N s
  wave : Wave (Mov qs N) s D (es.map (·.at_)) L
  kn : ∀ k ∈ es, KnownOK qs N s k
structure GrowOK (qs : List (Nat × Nat)) (N : Nat) (s : Nat → Int) (D : Nat) (es : List Known) (L : List (Nat → Int)) (ns : List Known) (P : (Nat → Int) → (Nat → Int) → Prop) : Prop where
  w : WaveOK qs N s D es L
  gr : Growing (Mov qs N) s D (es.map (·.at_)) (ns.map (·.at_)) P
  kn : ∀ k ∈ ns, KnownOK qs N s k

theorem same9_eq {N : Nat} (hN : N ≤ 9) {z z' : Nat → Int} (h : Pos N z) (h' : Pos N z') : same9 z z' = true ↔ z = z' :=
  ⟨fun e => h.ext h' fun i hi => same9_iff.1 e i (by omega), fun e => by subst e; exact same9_iff.2 fun _ _ => rfl⟩
theorem KnownOK.pos {qs : List (Nat × Nat)} {N : Nat} {s : Nat → Int} {k : Known} (hs : Pos N s) (h : KnownOK qs N s k) : Pos N k.at_ := h.1.1.pos hs
theorem lookK_mem {qs : List (Nat × Nat)} {N : Nat} (hN : N ≤ 9) {s : Nat → Int} (hs : Pos N s) {es : List Known} (hk : ∀ k ∈ es, KnownOK qs N s k) {z : Nat → Int} (hz : Pos N z) :
    (lookK es z = none ↔ z ∉ es.map (·.at_)) ∧ ∀ k, lookK es z = some k → k ∈ es ∧ k.at_ = z := by
  refine ⟨?_, fun k h => ?_⟩
  · rw [lookK_none]
    constructor
    · intro h hm
      obtain ⟨k, hk1, e⟩ := List.mem_map.1 hm
      have := h k hk1
      rw [(same9_eq hN hz ((hk k hk1).pos hs)).2 e.symm] at this
      cases this
    · intro h k hk1
      cases hb : same9 z k.at_ with
      | false => rfl
      | true => exact absurd (List.mem_map.2 ⟨k, hk1, ((same9_eq hN hz ((hk k hk1).pos hs)).1 hb).symm⟩) h
  · have := lookK_some h
    exact ⟨this.1, ((same9_eq hN hz ((hk k this.1).pos hs)).1 this.2).symm⟩

theorem GrowOK.all {qs : List (Nat × Nat)} {N : Nat} {s : Nat → Int} {D : Nat} {es ns : List Known} {L : List (Nat → Int)} {P : (Nat → Int) → (Nat → Int) → Prop} (h : GrowOK qs N s D es L ns P) : ∀ k ∈ es ++ ns, KnownOK qs N s k := fun k hk =>
  (List.mem_append.1 hk).elim (h.w.kn k) (h.kn k)
theorem GrowOK.start {qs : List (Nat × Nat)} {N : Nat} {s : Nat → Int} {D : Nat} {es : List Known} {L : List (Nat → Int)} (h : WaveOK qs N s D es L) : GrowOK qs N s D es L [] fun _ _ => False := ⟨h, Growing.start _ _ _ _, fun k hk => by cases hk⟩
theorem GrowOK.mono {qs : List (Nat × Nat)} {N : Nat} {s : Nat → Int} {D : Nat} {es ns : List Known} {L : List (Nat → Int)} {P Q : (Nat → Int) → (Nat → Int) → Prop} (h : GrowOK qs N s D es L ns P) (hq : ∀ p q, Q p q → Mov qs N p q → P p q) : GrowOK qs N s D es L ns Q := ⟨h.w, h.gr.mono hq, h.kn⟩
theorem GrowOK.old {qs : List (Nat × Nat)} {N : Nat} (hN : N ≤ 9) {s : Nat → Int} {D : Nat} {es ns : List Known} {L : List (Nat → Int)} {P Q : (Nat → Int) → (Nat → Int) → Prop} (h : GrowOK qs N s D es L ns P) {q : Nat → Int} {k : Known} (hz : Pos N q) (hk : lookK (es ++ ns) q = some k) (hq : ∀ p' q', Q p' q' → Mov qs N p' q' → P p' q' ∨ q' = q) : GrowOK qs N s D es L ns Q := by
  obtain ⟨h1, h2⟩ := (lookK_mem hN h.w.pos h.all hz).2 k hk
  refine ⟨h.w, h.gr.old ?_ hq, h.kn⟩
  rcases List.mem_append.1 h1 with h1 | h1
  · exact .inl (List.mem_map.2 ⟨k, h1, h2⟩)
  · exact .inr (List.mem_map.2 ⟨k, h1, h2⟩)
theorem GrowOK.new {qs : List (Nat × Nat)} {N : Nat} (hN : N ≤ 9) {s : Nat → Int} {D : Nat} {es ns : List Known} {L : List (Nat → Int)} {P Q : (Nat → Int) → (Nat → Int) → Prop} (h : GrowOK qs N s D es L ns P) {p q : Nat → Int} (hp : p ∈ L) (he : Mov qs N p q) (hk : lookK (es ++ ns) q = none) (hq : ∀ p' q', Q p' q' → Mov qs N p' q' → P p' q' ∨ q' = q) :
    GrowOK qs N s D es L (ns ++ [⟨q, p, D + 1⟩]) Q := by
  have hno := (lookK_mem hN h.w.pos h.all he.pos).1.1 hk
  rw [List.map_append, List.mem_append, not_or] at hno
  have hg := h.gr.new h.w.wave hp he hno.1 hno.2 hq
  refine ⟨h.w, by rw [List.map_append]; exact hg, fun k hk => ?_⟩
  rcases List.mem_append.1 hk with hk | hk
  · exact h.kn k hk
  · simp at hk
    subst hk
    exact ⟨hg.md q (by simp), .inr ⟨D, rfl, (h.w.wave.lm p).1 hp, he⟩⟩
theorem GrowOK.depth {qs : List (Nat × Nat)} {N : Nat} (hN : N ≤ 9) {s : Nat → Int} {D : Nat} {es ns : List Known} {L : List (Nat → Int)} {P : (Nat → Int) → (Nat → Int) → Prop} (h : GrowOK qs N s D es L ns P) {p : Nat → Int} (hp : p ∈ L) : ∃ k, lookK (es ++ ns) p = some k ∧ k.depth = D := by
  have hd := (h.w.wave.lm p).1 hp
  have hz : Pos N p := hd.1.pos h.w.pos
  have hm := lookK_mem hN h.w.pos h.all hz
  cases hl : lookK (es ++ ns) p with
  | none =>
    have := hm.1.1 hl
    rw [List.map_append, List.mem_append, not_or] at this
    exact absurd ((h.w.wave.km p).2 ⟨D, Nat.le_refl _, hd⟩) this.1
  | some k =>
    obtain ⟨h1, h2⟩ := hm.2 k hl
    have := (h.all k h1).1
    rw [h2] at this
    exact ⟨k, rfl, this.unique hd⟩
theorem GrowOK.finish {qs : List (Nat × Nat)} {N : Nat} {s : Nat → Int} {D : Nat} {es ns : List Known} {L : List (Nat → Int)} (h : GrowOK qs N s D es L ns fun p _ => p ∈ L) : WaveOK qs N s (D + 1) (es ++ ns) (ns.map (·.at_)) :=
  ⟨h.w.pos, by rw [List.map_append]; exact h.gr.finish h.w.wave, h.all⟩
theorem WaveOK.count {qs : List (Nat × Nat)} {N : Nat} (hN : N ≤ 9) {s : Nat → Int} {D : Nat} {es : List Known} {L : List (Nat → Int)} (h : WaveOK qs N s D es L) : es.length ≤ 362880 ∧ L.length ≤ 362880 := by
  have h1 := pos_count h.wave.kn (fun z hz => by obtain ⟨d, _, hd⟩ := (h.wave.km z).1 hz; exact hd.1.pos h.pos)
  have h2 := pos_count h.wave.ln (fun z hz => ((h.wave.lm z).1 hz).1.pos h.pos)
  have h3 := prodF_le hN
  simp at h1
  exact ⟨by omega, by omega⟩
theorem GrowOK.count {qs : List (Nat × Nat)} {N : Nat} (hN : N ≤ 9) {s : Nat → Int} {D : Nat} {es ns : List Known} {L : List (Nat → Int)} {P : (Nat → Int) → (Nat → Int) → Prop} (h : GrowOK qs N s D es L ns P) : ns.length ≤ 362880 := by
  have h1 := pos_count h.gr.mn (fun z hz => (h.gr.md z hz).1.pos h.w.pos)
  have h3 := prodF_le hN
  simp at h1
  omega
end Go.Eng
