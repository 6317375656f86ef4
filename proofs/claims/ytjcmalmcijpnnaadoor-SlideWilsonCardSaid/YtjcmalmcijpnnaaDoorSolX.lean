/-
  The ways back from the place where two searches meet.
  Conditions: none.
-/
import Derived.Test.YtjcmalmcijpnnaaDoorGroX

namespace Go.Eng
open Go.RowKit Go.Proofs Go.Proofs.YtjcmalmcijpnnaaDoor

theorem Pos.of {N : Nat} {zs : List Int} (h : IsPos (N : Int) zs) : Pos N (fun i => zs.getD i 0) := by
  obtain ⟨hN, hl, hr, hd⟩ := h
  have hl : zs.length = N := by omega
  have hg : ∀ j, (hj : j < zs.length) → zs.getD j 0 = zs[j] := fun j hj => by rw [List.getD_eq_getElem?_getD, List.getElem?_eq_getElem hj]; rfl
  have ho : ∀ j, zs.length ≤ j → zs.getD j 0 = 0 := fun j hj => by rw [List.getD_eq_getElem?_getD, List.getElem?_eq_none hj]; rfl
  refine ⟨fun i hi => ho i (by omega), fun i => ?_, fun i hi => ?_, fun i j hi hj e => ?_⟩
  · show 0 ≤ zs.getD i 0
    by_cases hi : i < zs.length
    · rw [hg i hi]; exact (hr _ (List.getElem_mem hi)).1
    · rw [ho i (by omega)]; exact Int.le_refl _
  · show zs.getD i 0 < N
    rw [hg i (by omega)]; exact (hr _ (List.getElem_mem _)).2
  · have e : zs.getD i 0 = zs.getD j 0 := e
    rw [hg i (by omega), hg j (by omega)] at e
    have hp := List.pairwise_iff_getElem.1 hd
    rcases Nat.lt_trichotomy i j with l | l | l
    · exact absurd e (hp i j (by omega) (by omega) l)
    · exact l
    · exact absurd e.symm (hp j i (by omega) (by omega) l)

theorem board_of {W : World} {g N : Nat} {nx : Nat → Nat} (hA : ArrAt W g 10 (boardCell N nx)) : BoardAt W g N nx :=
  ⟨(hA 0 (by omega)).1, fun i hi => by rw [(hA (1 + i) (by omega)).1]; unfold boardCell; rw [if_neg (by omega), Nat.add_sub_cancel_left]⟩

/-- One position is checked with the board. -/
theorem openOne_calls (w : World) (N : Nat) (hN : 2 ≤ N ∧ N ≤ 9) (v : Value) (ps : List (Int × Int)) (hv : PairsAt w v ps) (hl : ps.length ≤ 1000) (hb : IsBoard N ps) (op : Option Addr) (cp : Nat) (zs : List Int) (hp : IntsAt w (.slice op zs.length cp) zs) (hpos : IsPos (N : Int) zs) :
    CallsIn Fence.wide 0 Tryd.prog 55 #[.int .i64 (N : Int), v, .slice (some ⟨w.heap.size, 0, none⟩) 1 1] (w.alloc (.cells #[.slice op zs.length cp] 38)) fun e w' => (∃ g, e = .returned (.tuple #[.pointer (some ⟨g, 0, none⟩), .int .i64 0]) ∧ g < w'.heap.size ∧ BoardAt w' g N (nxs (nats ps))) ∧ Below w.heap.size w w' := by
  have HE : AllErr N ps 1 (fun _ => zs) 0 := .inr (.inr ⟨.inr (.inr ⟨by omega, by simpa using hb, rfl⟩), fun _ _ => hpos, rfl⟩)
  have HB1 : Below w.heap.size w (w.alloc (.cells #[.slice op zs.length cp] 38)) := (Below.refl _ _).alloc (Nat.le_refl _) _
  refine (openAll_calls _ N v ps (hv.below HB1) hl ⟨w.heap.size, 0, none⟩ 1 1 (by omega) (by simp) (fun _ => .slice op zs.length cp) (fun _ => zs) ?_ (fun _ _ => hp.below HB1)).mono ?_
  · intro i hi
    have : i = 0 := by omega
    subst this
    exact World.cell?_alloc_new _ _ _ _
  · rintro e w' ⟨hB, ⟨c, hc, h, rfl⟩ | ⟨h, g, rfl, hg, hA⟩⟩
    · exact absurd (h.unique HE) hc
    · have hA' : ArrAt w' g 10 (boardCell N (nxs (nats ps))) := by simpa using hA
      exact ⟨⟨g, rfl, hA'.lt (by omega), board_of hA'⟩, HB1.trans (hB.mono (by simp))⟩

set_option maxRecDepth 100000 in
set_option maxHeartbeats 8000000 in
/-- **'Count' of the program.** -/
theorem count_calls (w : World) (hT : TabsIn w) (N : Nat) (hN : 2 ≤ N ∧ N ≤ 9) (v : Value) (ps : List (Int × Int)) (hv : PairsAt w v ps) (hl : ps.length ≤ 1000) (hb : IsBoard N ps) (vp : Value) (zs : List Int) (hp : IntsAt w vp zs) (hpos : IsPos (N : Int) zs) :
    CallsIn Fence.wide 0 Tryd.prog 23 #[.int .i64 (N : Int), v, vp] w fun e w' => (∃ cnt most last, Bfs (Mov (nats ps) N) (fun i => zs.getD i 0) cnt most last ∧ e = .returned (.tuple #[.int .i64 ((cnt : Nat) : Int), .int .i64 0])) ∧ Below w.heap.size w w' := by
  obtain ⟨op, cp, rfl⟩ := hp.form
  have hzl : zs.length = N := by have := hpos.2.1; omega
  have HQ := Hid.intro (nats_mem hb.1)
  have HO := Hid.intro (openOne_calls w N hN v ps hv hl hb op cp zs hp hpos)
  have HOf : Hid (∀ w', Below w.heap.size w w' → CallsIn Fence.wide 0 Tryd.prog 57 #[.slice op zs.length cp] w' fun e w'' => e = .returned (.agg (pos9 fun i => zs.getD i 0)) ∧ Below w'.heap.size w' w'') := fun w' hw =>
    of_calls w' _ zs (hp.below hw) (by omega) (fun x hx => by have := hpos.2.2.1 x hx; omega)
  have HP := Hid.intro (Pos.of hpos)
  obtain ⟨z0, hz0⟩ : ∃ z0 : Nat → Int, (fun i => zs.getD i 0) = z0 := ⟨_, rfl⟩
  rw [hz0] at HP HOf ⊢
  have HT := Hid.intro hT
  have h2 := hT.lt
  clear hT hv hl hb hp hpos hz0 hzl
  unfold pos9 at HOf
  refine callsIn_of_wp Tryd.func23 rfl trivial ?_ rfl
  simp only [Tryd.ntmps23, List.size_toArray, List.length_cons, List.length_nil, Nat.reduceAdd, Nat.reduceSub, Array.replicate_succ, Array.replicate_zero, List.push_toArray, List.append_toArray, List.nil_append, List.cons_append]
  gi_wp2_with (first
    | (gi_at_call 55; refine HO.out.mono ?_; rintro e w1 ⟨⟨gb, rfl, hgb, hbd⟩, hB⟩; have HB := Hid.intro hB; have HBD := Hid.intro hbd; clear hB hbd)
    | (gi_at_call 57; refine (HOf.out _ HB.out).mono ?_; rintro e w2 ⟨rfl, hB2⟩; have HB2 := Hid.intro hB2; have HNW := Hid.intro (newWave_calls w2 gb z0); unfold pos9 at HNW; clear hB2)
    | (gi_at_call 50; refine HNW.out.mono ?_; rintro e w3 ⟨g, m, ve, rfl, hw3, hb3⟩; have HW3 := Hid.intro hw3; have HB3 := Hid.intro hb3; have h22 := HB2.out.size; have h11 := HB.out.size; have HAll := Hid.intro (all_calls w3 (((HT.out.below HB.out).below HB2.out).below hb3) w2.heap.size gb g m N (by omega) (by omega) hb3.size (nats ps) hN HQ.out ((HBD.out.from hgb HB2.out).from (by omega) hb3) ve z0 HP.out hw3); clear hw3 hb3)
    | (gi_at_call 51; refine HAll.out.mono ?_; rintro e w4 ⟨most, last, es, ve4, rfl, hbf, hle, hw4, hk4⟩; have HBF := Hid.intro hbf; have HK4 := Hid.intro hk4; have e1 := hw4.edge.2.1; obtain ⟨en, cl, hm4, hsz⟩ := hw4.map.size; have hlen := len_map88 hm4 hsz; have hlo := hw4.lo; clear hbf hk4 hw4 hm4))
  refine bodyPost_ret (v := .tuple #[.int .i64 ((es.length : Nat) : Int), .int .i64 0]) (by simp [results, Tryd.results23, go_sem]) rfl ?_
  exact ⟨⟨es.length, most, last, HBF.out, rfl⟩, HB.out.trans ((HB2.out.trans ((HB3.out.trans (HK4.out.below HB3.out.size hlo.1 hlo.2)).mono HB2.out.size)).mono HB.out.size)⟩

set_option maxRecDepth 100000 in
set_option maxHeartbeats 8000000 in
/-- **'Farthest' of the program.** -/
theorem farthest_calls (w : World) (hT : TabsIn w) (N : Nat) (hN : 2 ≤ N ∧ N ≤ 9) (v : Value) (ps : List (Int × Int)) (hv : PairsAt w v ps) (hl : ps.length ≤ 1000) (hb : IsBoard N ps) (vp : Value) (zs : List Int) (hp : IntsAt w vp zs) (hpos : IsPos (N : Int) zs) :
    CallsIn Fence.wide 0 Tryd.prog 27 #[.int .i64 (N : Int), v, vp] w fun e w' => (∃ cnt most last, Bfs (Mov (nats ps) N) (fun i => zs.getD i 0) cnt most last ∧ e = .returned (.tuple #[.int .i64 ((most : Nat) : Int), .int .i64 ((last : Nat) : Int), .int .i64 0])) ∧ Below w.heap.size w w' := by
  obtain ⟨op, cp, rfl⟩ := hp.form
  have hzl : zs.length = N := by have := hpos.2.1; omega
  have HQ := Hid.intro (nats_mem hb.1)
  have HO := Hid.intro (openOne_calls w N hN v ps hv hl hb op cp zs hp hpos)
  have HOf : Hid (∀ w', Below w.heap.size w w' → CallsIn Fence.wide 0 Tryd.prog 57 #[.slice op zs.length cp] w' fun e w'' => e = .returned (.agg (pos9 fun i => zs.getD i 0)) ∧ Below w'.heap.size w' w'') := fun w' hw =>
    of_calls w' _ zs (hp.below hw) (by omega) (fun x hx => by have := hpos.2.2.1 x hx; omega)
  have HP := Hid.intro (Pos.of hpos)
  obtain ⟨z0, hz0⟩ : ∃ z0 : Nat → Int, (fun i => zs.getD i 0) = z0 := ⟨_, rfl⟩
  rw [hz0] at HP HOf ⊢
  have HT := Hid.intro hT
  have h2 := hT.lt
  clear hT hv hl hb hp hpos hz0 hzl
  unfold pos9 at HOf
  refine callsIn_of_wp Tryd.func27 rfl trivial ?_ rfl
  simp only [Tryd.ntmps27, List.size_toArray, List.length_cons, List.length_nil, Nat.reduceAdd, Nat.reduceSub, Array.replicate_succ, Array.replicate_zero, List.push_toArray, List.append_toArray, List.nil_append, List.cons_append]
  gi_wp2_with (first
    | (gi_at_call 55; refine HO.out.mono ?_; rintro e w1 ⟨⟨gb, rfl, hgb, hbd⟩, hB⟩; have HB := Hid.intro hB; have HBD := Hid.intro hbd; clear hB hbd)
    | (gi_at_call 57; refine (HOf.out _ HB.out).mono ?_; rintro e w2 ⟨rfl, hB2⟩; have HB2 := Hid.intro hB2; have HNW := Hid.intro (newWave_calls w2 gb z0); unfold pos9 at HNW; clear hB2)
    | (gi_at_call 50; refine HNW.out.mono ?_; rintro e w3 ⟨g, m, ve, rfl, hw3, hb3⟩; have HW3 := Hid.intro hw3; have HB3 := Hid.intro hb3; have h22 := HB2.out.size; have h11 := HB.out.size; have HAll := Hid.intro (all_calls w3 (((HT.out.below HB.out).below HB2.out).below hb3) w2.heap.size gb g m N (by omega) (by omega) hb3.size (nats ps) hN HQ.out ((HBD.out.from hgb HB2.out).from (by omega) hb3) ve z0 HP.out hw3); clear hw3 hb3)
    | (gi_at_call 51; refine HAll.out.mono ?_; rintro e w4 ⟨most, last, es, ve4, rfl, hbf, hle, hw4, hk4⟩; have HBF := Hid.intro hbf; have HK4 := Hid.intro hk4; have hlo := hw4.lo; clear hbf hk4 hw4))
  refine bodyPost_ret (v := .tuple #[.int .i64 ((most : Nat) : Int), .int .i64 ((last : Nat) : Int), .int .i64 0]) (by simp [results, Tryd.results27, go_sem]) rfl ?_
  exact ⟨⟨es.length, most, last, HBF.out, rfl⟩, HB.out.trans ((HB2.out.trans ((HB3.out.trans (HK4.out.below HB3.out.size hlo.1 hlo.2)).mono HB2.out.size)).mono HB.out.size)⟩
end Go.Eng

namespace Go.Eng
open Go.RowKit Go.Proofs Go.Proofs.YtjcmalmcijpnnaaDoor

theorem guard83 : Tryd.prog.eqGuardType Tryd.prog.depth 83 = false := by kernel_rfl
/-- The numbers of a position, as a row of the machine's. -/
def avkL (z : Nat → Int) : AV := .cons (.sc (.int .i8 (z 0))) (.cons (.sc (.int .i8 (z 1))) (.cons (.sc (.int .i8 (z 2))) (.cons (.sc (.int .i8 (z 3))) (.cons (.sc (.int .i8 (z 4))) (.cons (.sc (.int .i8 (z 5))) (.cons (.sc (.int .i8 (z 6))) (.cons (.sc (.int .i8 (z 7))) (.cons (.sc (.int .i8 (z 8))) .nil))))))))
theorem avkL_fits (z : Nat → Int) : keyFits Tryd.prog 83 (.agg (avkL z)) = true := avk_fits z
theorem same9_L (z z' : Nat → Int) : same9 z z' = AV.beq (avkL z) (avkL z') := rfl
theorem eql83_run (ox oy : Operand) (z z' : Nat → Int) (w : World) :
    (do eqGuard .eql 83 ox oy (.agg (pos9 z)) (.agg (pos9 z')); binOp .eql 83 (.agg (pos9 z)) (.agg (pos9 z')) : Sem Value).run Tryd.prog w = .ok (.bool (same9 z z')) w := by
  have hb : binV Tryd.prog .eql 83 (avk z) (avk z') = some (.sc (.bool (same9 z z'))) := by
    rw [same9_L]
    show binV _ _ _ (.agg (avkL z)) (.agg (avkL z')) = _
    simp [binV, avkL_fits, guard83]
  obtain ⟨y, h1, h2⟩ := bin_sound (ox := ox) (oy := oy) hb (avk_VR z) (avk_VR z') w
  have hz : y = .bool (same9 z z') := h2
  rw [h1, hz]
theorem neq83_run (ox oy : Operand) (z z' : Nat → Int) (w : World) :
    (do eqGuard .neq 83 ox oy (.agg (pos9 z)) (.agg (pos9 z')); binOp .neq 83 (.agg (pos9 z)) (.agg (pos9 z')) : Sem Value).run Tryd.prog w = .ok (.bool (!same9 z z')) w := by
  have hb : binV Tryd.prog .neq 83 (avk z) (avk z') = some (.sc (.bool (!same9 z z'))) := by
    rw [same9_L]
    show binV _ _ _ (.agg (avkL z)) (.agg (avkL z')) = _
    simp [binV, avkL_fits, guard83]
  obtain ⟨y, h1, h2⟩ := bin_sound (ox := ox) (oy := oy) hb (avk_VR z) (avk_VR z') w
  have hz : y = .bool (!same9 z z') := h2
  rw [h1, hz]

/-- A list that is turned as far as k from both ends. -/
def rvF (zs : List Int) (k : Nat) : Nat → Int := fun i => if i < k ∨ zs.length ≤ i + k then zs.getD (zs.length - 1 - i) 0 else zs.getD i 0
def rvL (zs : List Int) (k : Nat) : List Int := (List.range zs.length).map (rvF zs k)
theorem rvL_len (zs : List Int) (k : Nat) : (rvL zs k).length = zs.length := by simp [rvL]
theorem rvL_zero (zs : List Int) : rvL zs 0 = zs := by
  refine List.ext_getElem (by simp [rvL]) fun i h1 h2 => ?_
  simp only [rvL, List.getElem_map, List.getElem_range, rvF]
  rw [if_neg (by omega), List.getD_eq_getElem?_getD, List.getElem?_eq_getElem h2]
  rfl
theorem rvL_step {zs : List Int} {k : Nat} (h : k + k + 1 < zs.length) : ((rvL zs k).set k (zs.getD (zs.length - 1 - k) 0)).set (zs.length - 1 - k) (zs.getD k 0) = rvL zs (k + 1) := by
  refine List.ext_getElem (by simp [rvL]) fun i h1 h2 => ?_
  have hi : i < zs.length := by simpa [rvL] using h2
  rw [List.getElem_set]
  by_cases e : zs.length - 1 - k = i
  · rw [if_pos e]
    subst e
    simp only [rvL, List.getElem_map, List.getElem_range, rvF]
    rw [if_pos (by omega), show zs.length - 1 - (zs.length - 1 - k) = k by omega]
  · rw [if_neg e, List.getElem_set]
    by_cases e2 : k = i
    · subst e2
      rw [if_pos rfl]
      simp only [rvL, List.getElem_map, List.getElem_range, rvF]
      rw [if_pos (by omega)]
    · rw [if_neg e2]
      simp only [rvL, List.getElem_map, List.getElem_range, rvF]
      by_cases c : i < k ∨ zs.length ≤ i + k
      · rw [if_pos c, if_pos (by omega)]
      · rw [if_neg c, if_neg (by omega)]
theorem rvL_end {zs : List Int} {k : Nat} (h : zs.length ≤ k + k + 1) : rvL zs k = zs.reverse := by
  refine List.ext_getElem (by simp [rvL]) fun i h1 h2 => ?_
  have hi : i < zs.length := by simpa [rvL] using h1
  rw [List.getElem_reverse]
  simp only [rvL, List.getElem_map, List.getElem_range, rvF]
  by_cases c : i < k ∨ zs.length ≤ i + k
  · rw [if_pos c, List.getD_eq_getElem?_getD, List.getElem?_eq_getElem (by omega)]
    rfl
  · rw [if_neg c, List.getD_eq_getElem?_getD, List.getElem?_eq_getElem hi]
    have : zs.length - 1 - i = i := by omega
    simp [this]

theorem nums_cell {w : World} {b g cap : Nat} {zs : List Int} (h : NumsAt w b (.slice (some ⟨g, 0, none⟩) zs.length cap) zs) {j : Nat} (hj : j < zs.length) : w.cell? ⟨g, j, none⟩ = some (.int .i64 (zs.getD j 0)) := by
  have h' : w.ownsRow b 3 1 (.slice (some ⟨g, 0, none⟩) zs.length cap) zs.length (zs.map (Value.int .i64)) := h
  rw [h'.cellAt j (by omega), List.getElem?_map, List.getElem?_eq_getElem hj, List.getD_eq_getElem?_getD, List.getElem?_eq_getElem hj]
  rfl
theorem nums_set {w : World} {b g cap n : Nat} {zs : List Int} (hn : zs.length = n) (h : NumsAt w b (.slice (some ⟨g, 0, none⟩) n cap) zs) (j : Nat) (x : Int) : NumsAt (w.setCell ⟨g, j, none⟩ (.int .i64 x)) b (.slice (some ⟨g, 0, none⟩) n cap) (zs.set j x) := by
  subst hn
  have h' : w.ownsRow b 3 1 (.slice (some ⟨g, 0, none⟩) zs.length cap) zs.length (zs.map (Value.int .i64)) := h
  unfold NumsAt
  rw [List.length_set, List.map_set]
  exact (h'.stored j (.int .i64 x)).1

theorem reverse_len {n k : Nat} {w : World} {g cap b : Nat} {zs : List Int} (hn : zs.length = n) (h : NumsAt w b (.slice (some ⟨g, 0, none⟩) n cap) (rvL zs k)) {j : Nat} (hj : j < n) : w.cell? ⟨g, j, none⟩ = some (.int .i64 (rvF zs k j)) ∧ w.frozen? ⟨g, j, none⟩ = false := by
  subst hn
  have h2 : NumsAt w b (.slice (some ⟨g, 0, none⟩) (rvL zs k).length cap) (rvL zs k) := by rw [rvL_len]; exact h
  have h3 := nums_cell h2 (j := j) (by rw [rvL_len]; exact hj)
  have h' : w.ownsRow b 3 1 (.slice (some ⟨g, 0, none⟩) zs.length cap) _ _ := h
  refine ⟨?_, ?_⟩
  · rw [h3]
    simp [rvL, hj]
  · rw [rvL_len] at h'
    exact h'.frozenAt j

set_option maxRecDepth 100000 in
set_option maxHeartbeats 8000000 in
/-- **'Reverse' of the library.** -/
theorem reverse_calls (w : World) (b g n cap : Nat) (zs : List Int) (hn : zs.length = n) (hn2 : n ≤ 1000000) (h : NumsAt w b (.slice (some ⟨g, 0, none⟩) n cap) zs) :
    CallsIn Fence.wide 0 Tryd.prog 68 #[.slice (some ⟨g, 0, none⟩) n cap] w fun e w' => (∃ v, e = .returned v) ∧ NumsAt w' b (.slice (some ⟨g, 0, none⟩) n cap) zs.reverse ∧ w.grownBy w' (some g) := by
  have HN := Hid.intro hn
  have H0 := Hid.intro h
  clear hn h
  refine callsIn_of_wp Tryd.func68 rfl trivial ?_ rfl
  simp only [Tryd.ntmps68, List.size_toArray, List.length_cons, List.length_nil, Nat.reduceAdd, Nat.reduceSub, Array.replicate_succ, Array.replicate_zero, List.push_toArray, List.append_toArray, List.nil_append, List.cons_append]
  gi_wp2
  gi_loopw [2, 3] (fun i j wr => ∃ k : Nat, k ≤ n ∧ i = .int .i64 (k : Int) ∧ j = .int .i64 ((n : Int) - 1 - (k : Int)) ∧ Hid (NumsAt wr b (.slice (some ⟨g, 0, none⟩) n cap) (rvL zs k)) ∧ Hid (w.grownBy wr (some g))) (fun i _ _ => n - (intOf i).toNat)
  case atStart => exact ⟨0, by omega, rfl, by simp, by rw [rvL_zero]; exact H0.out, ⟨rfl, rfl, rfl, Nat.le_refl _, fun _ _ _ => rfl⟩⟩
  case round =>
    obtain ⟨k, hk, rfl, rfl, HNk, HG⟩ := hrel
    by_cases hlt : k + k + 1 < n
    · obtain ⟨K, hK⟩ : ∃ K : Nat, n - 1 - k = K := ⟨_, rfl⟩
      have hKi : (n : Int) - 1 - (k : Int) = (K : Int) := by omega
      have hlk : (k : Int) < (K : Int) := by omega
      have hKn : K < n := by omega
      have hkn : k < n := by omega
      have hkK : k < K := by omega
      have r1 := reverse_len HN.out HNk.out hkn
      have r2 := reverse_len HN.out HNk.out hKn
      have e1 : rvF zs k k = zs.getD k 0 := by unfold rvF; have := HN.out; rw [if_neg (by omega)]
      have e2 : rvF zs k K = zs.getD K 0 := by unfold rvF; have := HN.out; rw [if_neg (by omega)]
      rw [e1] at r1
      rw [e2] at r2
      have HST : Hid (((rvL zs k).set k (zs.getD K 0)).set K (zs.getD k 0) = rvL zs (k + 1)) := by
        have := rvL_step (zs := zs) (k := k) (by have := HN.out; omega)
        rw [HN.out, hK] at this
        exact this
      obtain ⟨x, hx⟩ : ∃ x, zs.getD k 0 = x := ⟨_, rfl⟩
      obtain ⟨y, hy⟩ : ∃ y, zs.getD K 0 = y := ⟨_, rfl⟩
      rw [hx] at r1 HST
      rw [hy] at r2 HST
      have cx := r1.1
      have fx := r1.2
      have cy := r2.1
      have fy := r2.2
      rw [hKi]
      have HKI := Hid.intro hKi
      clear hx hy e1 e2 r1 r2 hK hKi
      gi_wp2
      gi_region
      gi_wp2
      refine ⟨⟨k + 1, by omega, by go_num, ?_, ?_, ?_⟩, by simp [intOf]; omega⟩
      · have := HKI.out
        congr 1
        omega
      · have h1 := nums_set (by rw [rvL_len, HN.out]) HNk.out k y
        have h2 := nums_set (by rw [List.length_set, rvL_len, HN.out]) h1 K x
        rw [HST.out] at h2
        exact h2
      · have h1 : w.grownBy (wr.setCell ⟨g, k, none⟩ (.int .i64 y)) (some g) := grownBy_trans_to HG.out (grownBy_set wr ⟨g, k, none⟩ (.int .i64 y)) (fun j e => .inl (by injection e with e; exact e.symm))
        have h2 : w.grownBy ((wr.setCell ⟨g, k, none⟩ (.int .i64 y)).setCell ⟨g, K, none⟩ (.int .i64 x)) (some g) := grownBy_trans_to h1 (grownBy_set _ ⟨g, K, none⟩ (.int .i64 x)) (fun j e => .inl (by injection e with e; exact e.symm))
        exact ⟨h2.os, h2.tape, h2.output, h2.size, h2.block⟩
    · have hn1 : (n : Int) - 1 - (k : Int) ≤ (k : Int) := by omega
      have HE : Hid (rvL zs k = zs.reverse) := rvL_end (by have := HN.out; omega)
      gi_wp2
      all_goals (first | go_returns | go_ret | go_end0)
      rw [HE.out] at HNk
      exact ⟨⟨_, rfl⟩, HNk.out, HG.out⟩
end Go.Eng

namespace Go.Eng
open Go.RowKit Go.Proofs Go.Proofs.YtjcmalmcijpnnaaDoor

/-- The list of places so far lies in its box. -/
structure OutAt (W : World) (bo : Nat) (v : Value) (ms : List Int) : Prop where
  box : Boxed W bo 38 v
  row : NumsAt W (bo + 1) v ms
theorem OutAt.below {W W' : World} {bo : Nat} {v : Value} {ms : List Int} (h : OutAt W bo v ms) (hb : Below W.heap.size W W') : OutAt W' bo v ms :=
  ⟨h.box.kept (Below.grow0 hb) (by simp), World.ownsRow.kept h.row (Below.grow0 hb) (by cases hv : v.ownBlock <;> simp)⟩
theorem OutAt.drew {W : World} {bo : Nat} {v : Value} {ms : List Int} (h : OutAt W bo v ms) : OutAt W.drew bo v ms := ⟨h.box, h.row⟩
/-- A place is noted. -/
theorem OutAt.add {W : World} {bo : Nat} {v : Value} {ms : List Int} (h : OutAt W bo v ms) (x : Int) (hl : ms.length ≤ 1000000) : ∃ v2 w5, (Builtin.append_ #[38, 38] 38 #[v, .slice (some ⟨W.heap.size, 0, none⟩) 1 1]).run Tryd.prog (W.alloc (.cells #[.int .i64 x] 3)) = .ok v2 w5 ∧ Boxed w5 bo 38 v ∧ OutAt (w5.setCell ⟨bo, 0, none⟩ v2) bo v2 (ms ++ [x]) ∧ Below bo W (w5.setCell ⟨bo, 0, none⟩ v2) ∧ (∀ b z, PosBox W b z → PosBox (w5.setCell ⟨bo, 0, none⟩ v2) b z) ∧ (∃ o c, v2 = .slice o (ms.length + 1) c) := by
  have hrow : W.ownsRow (bo + 1) 3 1 v ms.length (ms.map (Value.int .i64)) := h.row
  have hbl := h.box.lt
  obtain ⟨v2, w5, hrun, hown, hgrow, _⟩ := run_append_own (P := Tryd.prog) (W.alloc (.cells #[.int .i64 x] 3)) (bo + 1) 38 38 3 Tryd.t3 _ 1 8 Go.Eng.u38 t3_info t3_zero t3_size t3_bytes rfl (by decide) v ms.length _ (World.ownsRow.alloc hrow _) ⟨W.heap.size, 0, none⟩ 1 1 [.int .i64 x] rfl (num_new _ _ _) (fun u hu => by simp at hu; subst hu; rfl) (by unfold maxLen; omega) (by omega) (by simp; omega)
  have hb1 : Boxed w5 bo 38 v := (h.box.alloc _).kept hgrow (fun e => by have := (hrow.lt _ e.symm).1; omega)
  refine ⟨v2, w5, hrun, hb1, ⟨hb1.set _, ?_⟩, ?_, fun b z hp => ?_, ?_⟩
  · have h2 : w5.ownsRow (bo + 1) 3 1 v2 (ms ++ [x]).length ((ms ++ [x]).map (Value.int .i64)) := by
      rw [List.length_append, List.length_singleton, List.map_append]
      exact hown
    refine World.ownsRow.kept h2 (grownBy_setCell' w5 bo v2) ?_
    cases hv : v2.ownBlock with
    | none => exact .inl rfl
    | some b => exact .inr (fun e => by cases e; have := (h2.lt _ hv).1; omega)
  · have hg5 := hgrow.size
    simp at hg5
    refine ((((Below.refl bo W).alloc (by omega) _).grown hgrow (by simp; omega) (fun k e => by have := (hrow.lt _ e).1; omega))).setCell (p := ⟨bo, 0, none⟩) (Nat.le_refl _) _
  · have hne : b ≠ bo := fun e => by
      subst e
      have h1 : W.heap[b]? = some (.cells #[v] 38 (0, 0)) := h.box
      rw [show W.heap[b]? = _ from hp] at h1
      injection h1 with h1
      injection h1 with _ h1
      cases h1
    refine hp.kept ((Below.heap_setCell w5 ⟨bo, 0, none⟩ v2 b hne).trans ((hgrow.block b (by simp; have := hp.lt; omega) (fun e => ?_)).trans (Below.heap_alloc W _ b hp.lt)))
    obtain ⟨cur, hc⟩ := row_cells hrow e.symm
    rw [show W.heap[b]? = _ from hp] at hc
    injection hc with hc
    injection hc with _ hc
    cases hc
  · rcases hown.2 with ⟨_, h0⟩ | ⟨g, cap, _, rfl, _⟩
    · omega
    · exact ⟨_, _, rfl⟩

theorem step_append {P : Program} {o : Oper} {Y : Nat → Option Bool} {c : CAct} {w w' : World} {K : CAct → World → Prop} {Q : Exit → CAct → World → Prop} {E : Prop} {s x : Operand} {t : TypeId} {v v' sl : Value} (hw : Region.wanted o Y = true)
    (hop : o.op = .call { callee := .builtin .append, args := #[s, x], argTypes := #[t, t] }) (hs : c.eval s = v) (hx : c.eval x = sl) (hrun : (Builtin.append_ #[t, t] o.type #[v, sl]).run P w = .ok v' w') (hK : K (c.put o.dst v') w') :
    if Region.wanted o Y = true then o.wpIn Fence.wide 0 P c w K Q else E := by
  rw [if_pos hw]
  refine wpIn_of_run (ro := none) (res := .value v') (by rw [hop]; intro q hq; cases hq) ?_ (.inl rfl) hK
  simp [execOp, hop, resolve, invoke, builtin, hs, hx, hrun, Result.andThen]

set_option maxRecDepth 100000 in
set_option maxHeartbeats 16000000 in
/-- **The closure that notes the hole behind a move.** -/
theorem each67_calls (w : World) (bo bb gb N : Nat) (nx : Nat → Nat) (hN : 2 ≤ N ∧ N ≤ 9) (za zb : Nat → Int) (h : Nat) (hz : PosZ zb N h) (v : Value) (ms : List Int) (hl : ms.length ≤ 1000000) (hO : OutAt w bo v ms) (hbb : Boxed w bb 78 (.pointer (some ⟨gb, 0, none⟩))) (hbd : BoardAt w gb N nx) :
    CallsIn Fence.wide 0 Tryd.prog 67 #[.agg (pos9 za), .agg (pos9 zb), .pointer (some ⟨bo, 0, none⟩), .pointer (some ⟨bb, 0, none⟩)] w fun e w' => (∃ v, e = .returned v) ∧ (∃ v', OutAt w' bo v' (ms ++ [(h : Int)])) ∧ (∀ b z, PosBox w b z → PosBox w' b z) ∧ Below bo w w' := by
  have HB1 : Hid (Below w.heap.size w ((w.alloc (.cells (pos9 za) 83)).alloc (.cells (pos9 zb) 83))) := ((Below.refl _ _).alloc (Nat.le_refl _) _).alloc (by simp) _
  have HP : Hid (PosBox ((w.alloc (.cells (pos9 za) 83)).alloc (.cells (pos9 zb) 83)) (w.heap.size + 1) zb) := by
    have := World.alloc_heap_new (w.alloc (.cells (pos9 za) 83)) (.cells (pos9 zb) 83)
    rw [World.size_alloc] at this
    exact this
  have hs1 : ((w.alloc (.cells (pos9 za) 83)).alloc (.cells (pos9 zb) 83)).heap.size = w.heap.size + 1 + 1 := by simp
  obtain ⟨W1, hW1⟩ : ∃ W1, W1 = (w.alloc (.cells (pos9 za) 83)).alloc (.cells (pos9 zb) 83) := ⟨_, rfl⟩
  rw [← hW1] at HB1 HP hs1
  have hgl : gb < w.heap.size := World.block_lt_of_cell? _ _ hbd.n
  have HO1 : Hid (OutAt W1 bo v ms) := hO.below HB1.out
  have hb1 : Boxed W1 bb 78 (.pointer (some ⟨gb, 0, none⟩)) := hbb.kept (Below.grow0 HB1.out) (by simp)
  have hbol := HO1.out.box.lt
  have hbow := hO.box.lt
  have c0 := HP.out.cell 0 (by omega)
  have c1 := HP.out.cell 1 (by omega)
  have c2 := HP.out.cell 2 (by omega)
  have c3 := HP.out.cell 3 (by omega)
  have c4 := HP.out.cell 4 (by omega)
  have c5 := HP.out.cell 5 (by omega)
  have c6 := HP.out.cell 6 (by omega)
  have c7 := HP.out.cell 7 (by omega)
  have c8 := HP.out.cell 8 (by omega)
  have co := HO1.out.box.cell
  have cb := hb1.cell
  have HHo := Hid.intro (hole_calls W1.drew gb N hN ((HB1.out.cell (p := ⟨gb, 0, none⟩) hgl).trans hbd.n) (by show gb < W1.heap.size; omega) zb h hz.lt hz.zero (fun i hi => hz.only i (by have := hz.lt; omega) (by omega)))
  have HL := Hid.intro hl
  unfold pos9 at hW1 HHo
  have HW1 := Hid.intro hW1
  clear hz hO hbb hbd hb1 hW1 hl
  refine callsIn_of_wp Tryd.func67 rfl trivial ?_ rfl
  unfold pos9
  simp only [Tryd.ntmps67, List.size_toArray, List.length_cons, List.length_nil, Nat.reduceAdd, Nat.reduceSub, Array.replicate_succ, Array.replicate_zero, List.push_toArray, List.append_toArray, List.nil_append, List.cons_append]
  gi_wp2
  rw [← HW1.out]
  refine wpIn_region_any (by kernel_rfl) ?_
  change wpAnyIn _ _ _ _ _ _ _ _ _ (World.drew _)
  refine wpAnyIn_ready (rs := [0, 1, 2]) (by kernel_rfl) (by simp) ?_
  refine AllReadyIn.cons rfl (fun K hK => ?_) ?_
  · go_simp
    refine hK _ _ ?_
    clear hK K
    refine wpAnyIn_ready (rs := [1, 2]) (by kernel_rfl) (by simp) ?_
    refine AllReadyIn.cons rfl (fun K hK => ?_) ?_
    · go_simp
      refine hK _ _ ?_
      clear hK K
      refine wpAnyIn_ready (rs := [2]) (by kernel_rfl) (by simp) ?_
      refine AllReadyIn.cons rfl (fun K hK => ?_) ?_
      · go_simp
        refine hK _ _ ?_
        clear hK K
        refine wpAnyIn_ready (rs := [3]) (by kernel_rfl) (by simp) ?_
        refine AllReadyIn.cons rfl (fun K hK => ?_) ?_
        · go_simp
          gi_wp2_with (gi_at_call 58; refine HHo.out.mono ?_; rintro e w2 ⟨rfl, hB2⟩; have hO2 := HO1.out.drew.below hB2; have co2 := hO2.box.cell; have hbo2 := hO2.box.lt; obtain ⟨v2, w5, hrun, hbx, ho5, hbe, hpb, o5, c5', rfl⟩ := hO2.add (h : Int) HL.out; have cx := hbx.cell; have fx := hbx.frozen; have HRUN := Hid.intro hrun; have HO5 := Hid.intro ho5; have HPB : Hid (∀ b z, PosBox w b z → PosBox _ b z) := fun b z hp => hpb b z (((hp.below HB1.out).below (drewN_below0 W1)).below hB2); have HBE := Hid.intro ((HB1.out.mono (Nat.le_of_lt hbow)).trans (((drewN_below0 W1).mono (Nat.le_of_lt hbol)).trans ((hB2.mono (Nat.le_of_lt hbol)).trans hbe))); clear hO2 hbx ho5 hbe hpb hB2 hrun)
          refine wpAnyIn_ready (rs := [4]) (by kernel_rfl) (by simp) ?_
          refine AllReadyIn.cons rfl (fun K hK => ?_) ?_
          · go_simp
            refine hK _ _ ?_
            clear hK K
            refine wpAnyIn_ready (rs := [5]) (by kernel_rfl) (by simp) ?_
            refine AllReadyIn.cons rfl (fun K hK => ?_) ?_
            · refine step_append (by rfl) rfl rfl rfl HRUN.out ?_
              refine hK _ _ ?_
              clear hK K
              simp only [Go.Act.put, List.setIfInBounds_toArray, List.set_cons_succ, List.set_cons_zero]
              refine wpAnyIn_ready (rs := [6]) (by kernel_rfl) (by simp) ?_
              refine AllReadyIn.cons rfl (fun K hK => ?_) ?_
              · go_simp
                refine hK _ _ ?_
                clear hK K
                refine wpAnyIn_done (by kernel_rfl) ?_ _
                gi_wp2
                all_goals (first | go_returns | go_ret | go_end0)
                exact ⟨⟨_, rfl⟩, ⟨_, HO5.out⟩, HPB.out, HBE.out⟩
              exact AllReadyIn.nil
            exact AllReadyIn.nil
          exact AllReadyIn.nil
        exact AllReadyIn.nil
      exact AllReadyIn.nil
    refine AllReadyIn.cons rfl (fun K hK => ?_) ?_
    · go_simp
      refine hK _ _ ?_
      clear hK K
      refine wpAnyIn_ready (rs := [1]) (by kernel_rfl) (by simp) ?_
      refine AllReadyIn.cons rfl (fun K hK => ?_) ?_
      · go_simp
        refine hK _ _ ?_
        clear hK K
        refine wpAnyIn_ready (rs := [3]) (by kernel_rfl) (by simp) ?_
        refine AllReadyIn.cons rfl (fun K hK => ?_) ?_
        · go_simp
          gi_wp2_with (gi_at_call 58; refine HHo.out.mono ?_; rintro e w2 ⟨rfl, hB2⟩; have hO2 := HO1.out.drew.below hB2; have co2 := hO2.box.cell; have hbo2 := hO2.box.lt; obtain ⟨v2, w5, hrun, hbx, ho5, hbe, hpb, o5, c5', rfl⟩ := hO2.add (h : Int) HL.out; have cx := hbx.cell; have fx := hbx.frozen; have HRUN := Hid.intro hrun; have HO5 := Hid.intro ho5; have HPB : Hid (∀ b z, PosBox w b z → PosBox _ b z) := fun b z hp => hpb b z (((hp.below HB1.out).below (drewN_below0 W1)).below hB2); have HBE := Hid.intro ((HB1.out.mono (Nat.le_of_lt hbow)).trans (((drewN_below0 W1).mono (Nat.le_of_lt hbol)).trans ((hB2.mono (Nat.le_of_lt hbol)).trans hbe))); clear hO2 hbx ho5 hbe hpb hB2 hrun)
          refine wpAnyIn_ready (rs := [4]) (by kernel_rfl) (by simp) ?_
          refine AllReadyIn.cons rfl (fun K hK => ?_) ?_
          · go_simp
            refine hK _ _ ?_
            clear hK K
            refine wpAnyIn_ready (rs := [5]) (by kernel_rfl) (by simp) ?_
            refine AllReadyIn.cons rfl (fun K hK => ?_) ?_
            · refine step_append (by rfl) rfl rfl rfl HRUN.out ?_
              refine hK _ _ ?_
              clear hK K
              simp only [Go.Act.put, List.setIfInBounds_toArray, List.set_cons_succ, List.set_cons_zero]
              refine wpAnyIn_ready (rs := [6]) (by kernel_rfl) (by simp) ?_
              refine AllReadyIn.cons rfl (fun K hK => ?_) ?_
              · go_simp
                refine hK _ _ ?_
                clear hK K
                refine wpAnyIn_done (by kernel_rfl) ?_ _
                gi_wp2
                all_goals (first | go_returns | go_ret | go_end0)
                exact ⟨⟨_, rfl⟩, ⟨_, HO5.out⟩, HPB.out, HBE.out⟩
              exact AllReadyIn.nil
            exact AllReadyIn.nil
          exact AllReadyIn.nil
        exact AllReadyIn.nil
      exact AllReadyIn.nil
    exact AllReadyIn.nil
  refine AllReadyIn.cons rfl (fun K hK => ?_) ?_
  · go_simp
    refine hK _ _ ?_
    clear hK K
    refine wpAnyIn_ready (rs := [0, 2]) (by kernel_rfl) (by simp) ?_
    refine AllReadyIn.cons rfl (fun K hK => ?_) ?_
    · go_simp
      refine hK _ _ ?_
      clear hK K
      refine wpAnyIn_ready (rs := [2]) (by kernel_rfl) (by simp) ?_
      refine AllReadyIn.cons rfl (fun K hK => ?_) ?_
      · go_simp
        refine hK _ _ ?_
        clear hK K
        refine wpAnyIn_ready (rs := [3]) (by kernel_rfl) (by simp) ?_
        refine AllReadyIn.cons rfl (fun K hK => ?_) ?_
        · go_simp
          gi_wp2_with (gi_at_call 58; refine HHo.out.mono ?_; rintro e w2 ⟨rfl, hB2⟩; have hO2 := HO1.out.drew.below hB2; have co2 := hO2.box.cell; have hbo2 := hO2.box.lt; obtain ⟨v2, w5, hrun, hbx, ho5, hbe, hpb, o5, c5', rfl⟩ := hO2.add (h : Int) HL.out; have cx := hbx.cell; have fx := hbx.frozen; have HRUN := Hid.intro hrun; have HO5 := Hid.intro ho5; have HPB : Hid (∀ b z, PosBox w b z → PosBox _ b z) := fun b z hp => hpb b z (((hp.below HB1.out).below (drewN_below0 W1)).below hB2); have HBE := Hid.intro ((HB1.out.mono (Nat.le_of_lt hbow)).trans (((drewN_below0 W1).mono (Nat.le_of_lt hbol)).trans ((hB2.mono (Nat.le_of_lt hbol)).trans hbe))); clear hO2 hbx ho5 hbe hpb hB2 hrun)
          refine wpAnyIn_ready (rs := [4]) (by kernel_rfl) (by simp) ?_
          refine AllReadyIn.cons rfl (fun K hK => ?_) ?_
          · go_simp
            refine hK _ _ ?_
            clear hK K
            refine wpAnyIn_ready (rs := [5]) (by kernel_rfl) (by simp) ?_
            refine AllReadyIn.cons rfl (fun K hK => ?_) ?_
            · refine step_append (by rfl) rfl rfl rfl HRUN.out ?_
              refine hK _ _ ?_
              clear hK K
              simp only [Go.Act.put, List.setIfInBounds_toArray, List.set_cons_succ, List.set_cons_zero]
              refine wpAnyIn_ready (rs := [6]) (by kernel_rfl) (by simp) ?_
              refine AllReadyIn.cons rfl (fun K hK => ?_) ?_
              · go_simp
                refine hK _ _ ?_
                clear hK K
                refine wpAnyIn_done (by kernel_rfl) ?_ _
                gi_wp2
                all_goals (first | go_returns | go_ret | go_end0)
                exact ⟨⟨_, rfl⟩, ⟨_, HO5.out⟩, HPB.out, HBE.out⟩
              exact AllReadyIn.nil
            exact AllReadyIn.nil
          exact AllReadyIn.nil
        exact AllReadyIn.nil
      exact AllReadyIn.nil
    refine AllReadyIn.cons rfl (fun K hK => ?_) ?_
    · go_simp
      refine hK _ _ ?_
      clear hK K
      refine wpAnyIn_ready (rs := [0, 3]) (by kernel_rfl) (by simp) ?_
      refine AllReadyIn.cons rfl (fun K hK => ?_) ?_
      · go_simp
        refine hK _ _ ?_
        clear hK K
        refine wpAnyIn_ready (rs := [3]) (by kernel_rfl) (by simp) ?_
        refine AllReadyIn.cons rfl (fun K hK => ?_) ?_
        · go_simp
          gi_wp2_with (gi_at_call 58; refine HHo.out.mono ?_; rintro e w2 ⟨rfl, hB2⟩; have hO2 := HO1.out.drew.below hB2; have co2 := hO2.box.cell; have hbo2 := hO2.box.lt; obtain ⟨v2, w5, hrun, hbx, ho5, hbe, hpb, o5, c5', rfl⟩ := hO2.add (h : Int) HL.out; have cx := hbx.cell; have fx := hbx.frozen; have HRUN := Hid.intro hrun; have HO5 := Hid.intro ho5; have HPB : Hid (∀ b z, PosBox w b z → PosBox _ b z) := fun b z hp => hpb b z (((hp.below HB1.out).below (drewN_below0 W1)).below hB2); have HBE := Hid.intro ((HB1.out.mono (Nat.le_of_lt hbow)).trans (((drewN_below0 W1).mono (Nat.le_of_lt hbol)).trans ((hB2.mono (Nat.le_of_lt hbol)).trans hbe))); clear hO2 hbx ho5 hbe hpb hB2 hrun)
          refine wpAnyIn_ready (rs := [4]) (by kernel_rfl) (by simp) ?_
          refine AllReadyIn.cons rfl (fun K hK => ?_) ?_
          · go_simp
            refine hK _ _ ?_
            clear hK K
            refine wpAnyIn_ready (rs := [5]) (by kernel_rfl) (by simp) ?_
            refine AllReadyIn.cons rfl (fun K hK => ?_) ?_
            · refine step_append (by rfl) rfl rfl rfl HRUN.out ?_
              refine hK _ _ ?_
              clear hK K
              simp only [Go.Act.put, List.setIfInBounds_toArray, List.set_cons_succ, List.set_cons_zero]
              refine wpAnyIn_ready (rs := [6]) (by kernel_rfl) (by simp) ?_
              refine AllReadyIn.cons rfl (fun K hK => ?_) ?_
              · go_simp
                refine hK _ _ ?_
                clear hK K
                refine wpAnyIn_done (by kernel_rfl) ?_ _
                gi_wp2
                all_goals (first | go_returns | go_ret | go_end0)
                exact ⟨⟨_, rfl⟩, ⟨_, HO5.out⟩, HPB.out, HBE.out⟩
              exact AllReadyIn.nil
            exact AllReadyIn.nil
          exact AllReadyIn.nil
        exact AllReadyIn.nil
      refine AllReadyIn.cons rfl (fun K hK => ?_) ?_
      · go_simp
        gi_wp2_with (gi_at_call 58; refine HHo.out.mono ?_; rintro e w2 ⟨rfl, hB2⟩; have hO2 := HO1.out.drew.below hB2; have co2 := hO2.box.cell; have hbo2 := hO2.box.lt; obtain ⟨v2, w5, hrun, hbx, ho5, hbe, hpb, o5, c5', rfl⟩ := hO2.add (h : Int) HL.out; have cx := hbx.cell; have fx := hbx.frozen; have HRUN := Hid.intro hrun; have HO5 := Hid.intro ho5; have HPB : Hid (∀ b z, PosBox w b z → PosBox _ b z) := fun b z hp => hpb b z (((hp.below HB1.out).below (drewN_below0 W1)).below hB2); have HBE := Hid.intro ((HB1.out.mono (Nat.le_of_lt hbow)).trans (((drewN_below0 W1).mono (Nat.le_of_lt hbol)).trans ((hB2.mono (Nat.le_of_lt hbol)).trans hbe))); clear hO2 hbx ho5 hbe hpb hB2 hrun)
        refine wpAnyIn_ready (rs := [0, 4]) (by kernel_rfl) (by simp) ?_
        refine AllReadyIn.cons rfl (fun K hK => ?_) ?_
        · go_simp
          refine hK _ _ ?_
          clear hK K
          refine wpAnyIn_ready (rs := [4]) (by kernel_rfl) (by simp) ?_
          refine AllReadyIn.cons rfl (fun K hK => ?_) ?_
          · go_simp
            refine hK _ _ ?_
            clear hK K
            refine wpAnyIn_ready (rs := [5]) (by kernel_rfl) (by simp) ?_
            refine AllReadyIn.cons rfl (fun K hK => ?_) ?_
            · refine step_append (by rfl) rfl rfl rfl HRUN.out ?_
              refine hK _ _ ?_
              clear hK K
              simp only [Go.Act.put, List.setIfInBounds_toArray, List.set_cons_succ, List.set_cons_zero]
              refine wpAnyIn_ready (rs := [6]) (by kernel_rfl) (by simp) ?_
              refine AllReadyIn.cons rfl (fun K hK => ?_) ?_
              · go_simp
                refine hK _ _ ?_
                clear hK K
                refine wpAnyIn_done (by kernel_rfl) ?_ _
                gi_wp2
                all_goals (first | go_returns | go_ret | go_end0)
                exact ⟨⟨_, rfl⟩, ⟨_, HO5.out⟩, HPB.out, HBE.out⟩
              exact AllReadyIn.nil
            exact AllReadyIn.nil
          exact AllReadyIn.nil
        refine AllReadyIn.cons rfl (fun K hK => ?_) ?_
        · go_simp
          refine hK _ _ ?_
          clear hK K
          refine wpAnyIn_ready (rs := [0]) (by kernel_rfl) (by simp) ?_
          refine AllReadyIn.cons rfl (fun K hK => ?_) ?_
          · go_simp
            refine hK _ _ ?_
            clear hK K
            refine wpAnyIn_ready (rs := [5]) (by kernel_rfl) (by simp) ?_
            refine AllReadyIn.cons rfl (fun K hK => ?_) ?_
            · refine step_append (by rfl) rfl rfl rfl HRUN.out ?_
              refine hK _ _ ?_
              clear hK K
              simp only [Go.Act.put, List.setIfInBounds_toArray, List.set_cons_succ, List.set_cons_zero]
              refine wpAnyIn_ready (rs := [6]) (by kernel_rfl) (by simp) ?_
              refine AllReadyIn.cons rfl (fun K hK => ?_) ?_
              · go_simp
                refine hK _ _ ?_
                clear hK K
                refine wpAnyIn_done (by kernel_rfl) ?_ _
                gi_wp2
                all_goals (first | go_returns | go_ret | go_end0)
                exact ⟨⟨_, rfl⟩, ⟨_, HO5.out⟩, HPB.out, HBE.out⟩
              exact AllReadyIn.nil
            exact AllReadyIn.nil
          exact AllReadyIn.nil
        exact AllReadyIn.nil
      exact AllReadyIn.nil
    exact AllReadyIn.nil
  refine AllReadyIn.cons rfl (fun K hK => ?_) ?_
  · go_simp
    refine hK _ _ ?_
    clear hK K
    refine wpAnyIn_ready (rs := [0, 1]) (by kernel_rfl) (by simp) ?_
    refine AllReadyIn.cons rfl (fun K hK => ?_) ?_
    · go_simp
      refine hK _ _ ?_
      clear hK K
      refine wpAnyIn_ready (rs := [1]) (by kernel_rfl) (by simp) ?_
      refine AllReadyIn.cons rfl (fun K hK => ?_) ?_
      · go_simp
        refine hK _ _ ?_
        clear hK K
        refine wpAnyIn_ready (rs := [3]) (by kernel_rfl) (by simp) ?_
        refine AllReadyIn.cons rfl (fun K hK => ?_) ?_
        · go_simp
          gi_wp2_with (gi_at_call 58; refine HHo.out.mono ?_; rintro e w2 ⟨rfl, hB2⟩; have hO2 := HO1.out.drew.below hB2; have co2 := hO2.box.cell; have hbo2 := hO2.box.lt; obtain ⟨v2, w5, hrun, hbx, ho5, hbe, hpb, o5, c5', rfl⟩ := hO2.add (h : Int) HL.out; have cx := hbx.cell; have fx := hbx.frozen; have HRUN := Hid.intro hrun; have HO5 := Hid.intro ho5; have HPB : Hid (∀ b z, PosBox w b z → PosBox _ b z) := fun b z hp => hpb b z (((hp.below HB1.out).below (drewN_below0 W1)).below hB2); have HBE := Hid.intro ((HB1.out.mono (Nat.le_of_lt hbow)).trans (((drewN_below0 W1).mono (Nat.le_of_lt hbol)).trans ((hB2.mono (Nat.le_of_lt hbol)).trans hbe))); clear hO2 hbx ho5 hbe hpb hB2 hrun)
          refine wpAnyIn_ready (rs := [4]) (by kernel_rfl) (by simp) ?_
          refine AllReadyIn.cons rfl (fun K hK => ?_) ?_
          · go_simp
            refine hK _ _ ?_
            clear hK K
            refine wpAnyIn_ready (rs := [5]) (by kernel_rfl) (by simp) ?_
            refine AllReadyIn.cons rfl (fun K hK => ?_) ?_
            · refine step_append (by rfl) rfl rfl rfl HRUN.out ?_
              refine hK _ _ ?_
              clear hK K
              simp only [Go.Act.put, List.setIfInBounds_toArray, List.set_cons_succ, List.set_cons_zero]
              refine wpAnyIn_ready (rs := [6]) (by kernel_rfl) (by simp) ?_
              refine AllReadyIn.cons rfl (fun K hK => ?_) ?_
              · go_simp
                refine hK _ _ ?_
                clear hK K
                refine wpAnyIn_done (by kernel_rfl) ?_ _
                gi_wp2
                all_goals (first | go_returns | go_ret | go_end0)
                exact ⟨⟨_, rfl⟩, ⟨_, HO5.out⟩, HPB.out, HBE.out⟩
              exact AllReadyIn.nil
            exact AllReadyIn.nil
          exact AllReadyIn.nil
        exact AllReadyIn.nil
      exact AllReadyIn.nil
    refine AllReadyIn.cons rfl (fun K hK => ?_) ?_
    · go_simp
      refine hK _ _ ?_
      clear hK K
      refine wpAnyIn_ready (rs := [0, 3]) (by kernel_rfl) (by simp) ?_
      refine AllReadyIn.cons rfl (fun K hK => ?_) ?_
      · go_simp
        refine hK _ _ ?_
        clear hK K
        refine wpAnyIn_ready (rs := [3]) (by kernel_rfl) (by simp) ?_
        refine AllReadyIn.cons rfl (fun K hK => ?_) ?_
        · go_simp
          gi_wp2_with (gi_at_call 58; refine HHo.out.mono ?_; rintro e w2 ⟨rfl, hB2⟩; have hO2 := HO1.out.drew.below hB2; have co2 := hO2.box.cell; have hbo2 := hO2.box.lt; obtain ⟨v2, w5, hrun, hbx, ho5, hbe, hpb, o5, c5', rfl⟩ := hO2.add (h : Int) HL.out; have cx := hbx.cell; have fx := hbx.frozen; have HRUN := Hid.intro hrun; have HO5 := Hid.intro ho5; have HPB : Hid (∀ b z, PosBox w b z → PosBox _ b z) := fun b z hp => hpb b z (((hp.below HB1.out).below (drewN_below0 W1)).below hB2); have HBE := Hid.intro ((HB1.out.mono (Nat.le_of_lt hbow)).trans (((drewN_below0 W1).mono (Nat.le_of_lt hbol)).trans ((hB2.mono (Nat.le_of_lt hbol)).trans hbe))); clear hO2 hbx ho5 hbe hpb hB2 hrun)
          refine wpAnyIn_ready (rs := [4]) (by kernel_rfl) (by simp) ?_
          refine AllReadyIn.cons rfl (fun K hK => ?_) ?_
          · go_simp
            refine hK _ _ ?_
            clear hK K
            refine wpAnyIn_ready (rs := [5]) (by kernel_rfl) (by simp) ?_
            refine AllReadyIn.cons rfl (fun K hK => ?_) ?_
            · refine step_append (by rfl) rfl rfl rfl HRUN.out ?_
              refine hK _ _ ?_
              clear hK K
              simp only [Go.Act.put, List.setIfInBounds_toArray, List.set_cons_succ, List.set_cons_zero]
              refine wpAnyIn_ready (rs := [6]) (by kernel_rfl) (by simp) ?_
              refine AllReadyIn.cons rfl (fun K hK => ?_) ?_
              · go_simp
                refine hK _ _ ?_
                clear hK K
                refine wpAnyIn_done (by kernel_rfl) ?_ _
                gi_wp2
                all_goals (first | go_returns | go_ret | go_end0)
                exact ⟨⟨_, rfl⟩, ⟨_, HO5.out⟩, HPB.out, HBE.out⟩
              exact AllReadyIn.nil
            exact AllReadyIn.nil
          exact AllReadyIn.nil
        exact AllReadyIn.nil
      refine AllReadyIn.cons rfl (fun K hK => ?_) ?_
      · go_simp
        gi_wp2_with (gi_at_call 58; refine HHo.out.mono ?_; rintro e w2 ⟨rfl, hB2⟩; have hO2 := HO1.out.drew.below hB2; have co2 := hO2.box.cell; have hbo2 := hO2.box.lt; obtain ⟨v2, w5, hrun, hbx, ho5, hbe, hpb, o5, c5', rfl⟩ := hO2.add (h : Int) HL.out; have cx := hbx.cell; have fx := hbx.frozen; have HRUN := Hid.intro hrun; have HO5 := Hid.intro ho5; have HPB : Hid (∀ b z, PosBox w b z → PosBox _ b z) := fun b z hp => hpb b z (((hp.below HB1.out).below (drewN_below0 W1)).below hB2); have HBE := Hid.intro ((HB1.out.mono (Nat.le_of_lt hbow)).trans (((drewN_below0 W1).mono (Nat.le_of_lt hbol)).trans ((hB2.mono (Nat.le_of_lt hbol)).trans hbe))); clear hO2 hbx ho5 hbe hpb hB2 hrun)
        refine wpAnyIn_ready (rs := [0, 4]) (by kernel_rfl) (by simp) ?_
        refine AllReadyIn.cons rfl (fun K hK => ?_) ?_
        · go_simp
          refine hK _ _ ?_
          clear hK K
          refine wpAnyIn_ready (rs := [4]) (by kernel_rfl) (by simp) ?_
          refine AllReadyIn.cons rfl (fun K hK => ?_) ?_
          · go_simp
            refine hK _ _ ?_
            clear hK K
            refine wpAnyIn_ready (rs := [5]) (by kernel_rfl) (by simp) ?_
            refine AllReadyIn.cons rfl (fun K hK => ?_) ?_
            · refine step_append (by rfl) rfl rfl rfl HRUN.out ?_
              refine hK _ _ ?_
              clear hK K
              simp only [Go.Act.put, List.setIfInBounds_toArray, List.set_cons_succ, List.set_cons_zero]
              refine wpAnyIn_ready (rs := [6]) (by kernel_rfl) (by simp) ?_
              refine AllReadyIn.cons rfl (fun K hK => ?_) ?_
              · go_simp
                refine hK _ _ ?_
                clear hK K
                refine wpAnyIn_done (by kernel_rfl) ?_ _
                gi_wp2
                all_goals (first | go_returns | go_ret | go_end0)
                exact ⟨⟨_, rfl⟩, ⟨_, HO5.out⟩, HPB.out, HBE.out⟩
              exact AllReadyIn.nil
            exact AllReadyIn.nil
          exact AllReadyIn.nil
        refine AllReadyIn.cons rfl (fun K hK => ?_) ?_
        · go_simp
          refine hK _ _ ?_
          clear hK K
          refine wpAnyIn_ready (rs := [0]) (by kernel_rfl) (by simp) ?_
          refine AllReadyIn.cons rfl (fun K hK => ?_) ?_
          · go_simp
            refine hK _ _ ?_
            clear hK K
            refine wpAnyIn_ready (rs := [5]) (by kernel_rfl) (by simp) ?_
            refine AllReadyIn.cons rfl (fun K hK => ?_) ?_
            · refine step_append (by rfl) rfl rfl rfl HRUN.out ?_
              refine hK _ _ ?_
              clear hK K
              simp only [Go.Act.put, List.setIfInBounds_toArray, List.set_cons_succ, List.set_cons_zero]
              refine wpAnyIn_ready (rs := [6]) (by kernel_rfl) (by simp) ?_
              refine AllReadyIn.cons rfl (fun K hK => ?_) ?_
              · go_simp
                refine hK _ _ ?_
                clear hK K
                refine wpAnyIn_done (by kernel_rfl) ?_ _
                gi_wp2
                all_goals (first | go_returns | go_ret | go_end0)
                exact ⟨⟨_, rfl⟩, ⟨_, HO5.out⟩, HPB.out, HBE.out⟩
              exact AllReadyIn.nil
            exact AllReadyIn.nil
          exact AllReadyIn.nil
        exact AllReadyIn.nil
      exact AllReadyIn.nil
    exact AllReadyIn.nil
  exact AllReadyIn.nil

set_option maxRecDepth 100000 in
set_option maxHeartbeats 16000000 in
/-- **The closure that notes the hole ahead of a move.** -/
theorem each69_calls (w : World) (bo bb gb N : Nat) (nx : Nat → Nat) (hN : 2 ≤ N ∧ N ≤ 9) (za zb : Nat → Int) (h : Nat) (hz : PosZ za N h) (v : Value) (ms : List Int) (hl : ms.length ≤ 1000000) (hO : OutAt w bo v ms) (hbb : Boxed w bb 78 (.pointer (some ⟨gb, 0, none⟩))) (hbd : BoardAt w gb N nx) :
    CallsIn Fence.wide 0 Tryd.prog 69 #[.agg (pos9 za), .agg (pos9 zb), .pointer (some ⟨bo, 0, none⟩), .pointer (some ⟨bb, 0, none⟩)] w fun e w' => (∃ v, e = .returned v) ∧ (∃ v', OutAt w' bo v' (ms ++ [(h : Int)])) ∧ (∀ b z, PosBox w b z → PosBox w' b z) ∧ Below bo w w' := by
  have HB1 : Hid (Below w.heap.size w ((w.alloc (.cells (pos9 za) 83)).alloc (.cells (pos9 zb) 83))) := ((Below.refl _ _).alloc (Nat.le_refl _) _).alloc (by simp) _
  have HP : Hid (PosBox ((w.alloc (.cells (pos9 za) 83)).alloc (.cells (pos9 zb) 83)) (w.heap.size) za) := (Below.heap_alloc _ _ _ (by simp)).trans (World.alloc_heap_new w _)
  have hs1 : ((w.alloc (.cells (pos9 za) 83)).alloc (.cells (pos9 zb) 83)).heap.size = w.heap.size + 1 + 1 := by simp
  obtain ⟨W1, hW1⟩ : ∃ W1, W1 = (w.alloc (.cells (pos9 za) 83)).alloc (.cells (pos9 zb) 83) := ⟨_, rfl⟩
  rw [← hW1] at HB1 HP hs1
  have hgl : gb < w.heap.size := World.block_lt_of_cell? _ _ hbd.n
  have HO1 : Hid (OutAt W1 bo v ms) := hO.below HB1.out
  have hb1 : Boxed W1 bb 78 (.pointer (some ⟨gb, 0, none⟩)) := hbb.kept (Below.grow0 HB1.out) (by simp)
  have hbol := HO1.out.box.lt
  have hbow := hO.box.lt
  have c0 := HP.out.cell 0 (by omega)
  have c1 := HP.out.cell 1 (by omega)
  have c2 := HP.out.cell 2 (by omega)
  have c3 := HP.out.cell 3 (by omega)
  have c4 := HP.out.cell 4 (by omega)
  have c5 := HP.out.cell 5 (by omega)
  have c6 := HP.out.cell 6 (by omega)
  have c7 := HP.out.cell 7 (by omega)
  have c8 := HP.out.cell 8 (by omega)
  have co := HO1.out.box.cell
  have cb := hb1.cell
  have HHo := Hid.intro (hole_calls W1.drew gb N hN ((HB1.out.cell (p := ⟨gb, 0, none⟩) hgl).trans hbd.n) (by show gb < W1.heap.size; omega) za h hz.lt hz.zero (fun i hi => hz.only i (by have := hz.lt; omega) (by omega)))
  have HL := Hid.intro hl
  unfold pos9 at hW1 HHo
  have HW1 := Hid.intro hW1
  clear hz hO hbb hbd hb1 hW1 hl
  refine callsIn_of_wp Tryd.func69 rfl trivial ?_ rfl
  unfold pos9
  simp only [Tryd.ntmps69, List.size_toArray, List.length_cons, List.length_nil, Nat.reduceAdd, Nat.reduceSub, Array.replicate_succ, Array.replicate_zero, List.push_toArray, List.append_toArray, List.nil_append, List.cons_append]
  gi_wp2
  rw [← HW1.out]
  refine wpIn_region_any (by kernel_rfl) ?_
  change wpAnyIn _ _ _ _ _ _ _ _ _ (World.drew _)
  refine wpAnyIn_ready (rs := [0, 1, 2]) (by kernel_rfl) (by simp) ?_
  refine AllReadyIn.cons rfl (fun K hK => ?_) ?_
  · go_simp
    refine hK _ _ ?_
    clear hK K
    refine wpAnyIn_ready (rs := [1, 2]) (by kernel_rfl) (by simp) ?_
    refine AllReadyIn.cons rfl (fun K hK => ?_) ?_
    · go_simp
      refine hK _ _ ?_
      clear hK K
      refine wpAnyIn_ready (rs := [2]) (by kernel_rfl) (by simp) ?_
      refine AllReadyIn.cons rfl (fun K hK => ?_) ?_
      · go_simp
        refine hK _ _ ?_
        clear hK K
        refine wpAnyIn_ready (rs := [3]) (by kernel_rfl) (by simp) ?_
        refine AllReadyIn.cons rfl (fun K hK => ?_) ?_
        · go_simp
          gi_wp2_with (gi_at_call 58; refine HHo.out.mono ?_; rintro e w2 ⟨rfl, hB2⟩; have hO2 := HO1.out.drew.below hB2; have co2 := hO2.box.cell; have hbo2 := hO2.box.lt; obtain ⟨v2, w5, hrun, hbx, ho5, hbe, hpb, o5, c5', rfl⟩ := hO2.add (h : Int) HL.out; have cx := hbx.cell; have fx := hbx.frozen; have HRUN := Hid.intro hrun; have HO5 := Hid.intro ho5; have HPB : Hid (∀ b z, PosBox w b z → PosBox _ b z) := fun b z hp => hpb b z (((hp.below HB1.out).below (drewN_below0 W1)).below hB2); have HBE := Hid.intro ((HB1.out.mono (Nat.le_of_lt hbow)).trans (((drewN_below0 W1).mono (Nat.le_of_lt hbol)).trans ((hB2.mono (Nat.le_of_lt hbol)).trans hbe))); clear hO2 hbx ho5 hbe hpb hB2 hrun)
          refine wpAnyIn_ready (rs := [4]) (by kernel_rfl) (by simp) ?_
          refine AllReadyIn.cons rfl (fun K hK => ?_) ?_
          · go_simp
            refine hK _ _ ?_
            clear hK K
            refine wpAnyIn_ready (rs := [5]) (by kernel_rfl) (by simp) ?_
            refine AllReadyIn.cons rfl (fun K hK => ?_) ?_
            · refine step_append (by rfl) rfl rfl rfl HRUN.out ?_
              refine hK _ _ ?_
              clear hK K
              simp only [Go.Act.put, List.setIfInBounds_toArray, List.set_cons_succ, List.set_cons_zero]
              refine wpAnyIn_ready (rs := [6]) (by kernel_rfl) (by simp) ?_
              refine AllReadyIn.cons rfl (fun K hK => ?_) ?_
              · go_simp
                refine hK _ _ ?_
                clear hK K
                refine wpAnyIn_done (by kernel_rfl) ?_ _
                gi_wp2
                all_goals (first | go_returns | go_ret | go_end0)
                exact ⟨⟨_, rfl⟩, ⟨_, HO5.out⟩, HPB.out, HBE.out⟩
              exact AllReadyIn.nil
            exact AllReadyIn.nil
          exact AllReadyIn.nil
        exact AllReadyIn.nil
      exact AllReadyIn.nil
    refine AllReadyIn.cons rfl (fun K hK => ?_) ?_
    · go_simp
      refine hK _ _ ?_
      clear hK K
      refine wpAnyIn_ready (rs := [1]) (by kernel_rfl) (by simp) ?_
      refine AllReadyIn.cons rfl (fun K hK => ?_) ?_
      · go_simp
        refine hK _ _ ?_
        clear hK K
        refine wpAnyIn_ready (rs := [3]) (by kernel_rfl) (by simp) ?_
        refine AllReadyIn.cons rfl (fun K hK => ?_) ?_
        · go_simp
          gi_wp2_with (gi_at_call 58; refine HHo.out.mono ?_; rintro e w2 ⟨rfl, hB2⟩; have hO2 := HO1.out.drew.below hB2; have co2 := hO2.box.cell; have hbo2 := hO2.box.lt; obtain ⟨v2, w5, hrun, hbx, ho5, hbe, hpb, o5, c5', rfl⟩ := hO2.add (h : Int) HL.out; have cx := hbx.cell; have fx := hbx.frozen; have HRUN := Hid.intro hrun; have HO5 := Hid.intro ho5; have HPB : Hid (∀ b z, PosBox w b z → PosBox _ b z) := fun b z hp => hpb b z (((hp.below HB1.out).below (drewN_below0 W1)).below hB2); have HBE := Hid.intro ((HB1.out.mono (Nat.le_of_lt hbow)).trans (((drewN_below0 W1).mono (Nat.le_of_lt hbol)).trans ((hB2.mono (Nat.le_of_lt hbol)).trans hbe))); clear hO2 hbx ho5 hbe hpb hB2 hrun)
          refine wpAnyIn_ready (rs := [4]) (by kernel_rfl) (by simp) ?_
          refine AllReadyIn.cons rfl (fun K hK => ?_) ?_
          · go_simp
            refine hK _ _ ?_
            clear hK K
            refine wpAnyIn_ready (rs := [5]) (by kernel_rfl) (by simp) ?_
            refine AllReadyIn.cons rfl (fun K hK => ?_) ?_
            · refine step_append (by rfl) rfl rfl rfl HRUN.out ?_
              refine hK _ _ ?_
              clear hK K
              simp only [Go.Act.put, List.setIfInBounds_toArray, List.set_cons_succ, List.set_cons_zero]
              refine wpAnyIn_ready (rs := [6]) (by kernel_rfl) (by simp) ?_
              refine AllReadyIn.cons rfl (fun K hK => ?_) ?_
              · go_simp
                refine hK _ _ ?_
                clear hK K
                refine wpAnyIn_done (by kernel_rfl) ?_ _
                gi_wp2
                all_goals (first | go_returns | go_ret | go_end0)
                exact ⟨⟨_, rfl⟩, ⟨_, HO5.out⟩, HPB.out, HBE.out⟩
              exact AllReadyIn.nil
            exact AllReadyIn.nil
          exact AllReadyIn.nil
        exact AllReadyIn.nil
      exact AllReadyIn.nil
    exact AllReadyIn.nil
  refine AllReadyIn.cons rfl (fun K hK => ?_) ?_
  · go_simp
    refine hK _ _ ?_
    clear hK K
    refine wpAnyIn_ready (rs := [0, 2]) (by kernel_rfl) (by simp) ?_
    refine AllReadyIn.cons rfl (fun K hK => ?_) ?_
    · go_simp
      refine hK _ _ ?_
      clear hK K
      refine wpAnyIn_ready (rs := [2]) (by kernel_rfl) (by simp) ?_
      refine AllReadyIn.cons rfl (fun K hK => ?_) ?_
      · go_simp
        refine hK _ _ ?_
        clear hK K
        refine wpAnyIn_ready (rs := [3]) (by kernel_rfl) (by simp) ?_
        refine AllReadyIn.cons rfl (fun K hK => ?_) ?_
        · go_simp
          gi_wp2_with (gi_at_call 58; refine HHo.out.mono ?_; rintro e w2 ⟨rfl, hB2⟩; have hO2 := HO1.out.drew.below hB2; have co2 := hO2.box.cell; have hbo2 := hO2.box.lt; obtain ⟨v2, w5, hrun, hbx, ho5, hbe, hpb, o5, c5', rfl⟩ := hO2.add (h : Int) HL.out; have cx := hbx.cell; have fx := hbx.frozen; have HRUN := Hid.intro hrun; have HO5 := Hid.intro ho5; have HPB : Hid (∀ b z, PosBox w b z → PosBox _ b z) := fun b z hp => hpb b z (((hp.below HB1.out).below (drewN_below0 W1)).below hB2); have HBE := Hid.intro ((HB1.out.mono (Nat.le_of_lt hbow)).trans (((drewN_below0 W1).mono (Nat.le_of_lt hbol)).trans ((hB2.mono (Nat.le_of_lt hbol)).trans hbe))); clear hO2 hbx ho5 hbe hpb hB2 hrun)
          refine wpAnyIn_ready (rs := [4]) (by kernel_rfl) (by simp) ?_
          refine AllReadyIn.cons rfl (fun K hK => ?_) ?_
          · go_simp
            refine hK _ _ ?_
            clear hK K
            refine wpAnyIn_ready (rs := [5]) (by kernel_rfl) (by simp) ?_
            refine AllReadyIn.cons rfl (fun K hK => ?_) ?_
            · refine step_append (by rfl) rfl rfl rfl HRUN.out ?_
              refine hK _ _ ?_
              clear hK K
              simp only [Go.Act.put, List.setIfInBounds_toArray, List.set_cons_succ, List.set_cons_zero]
              refine wpAnyIn_ready (rs := [6]) (by kernel_rfl) (by simp) ?_
              refine AllReadyIn.cons rfl (fun K hK => ?_) ?_
              · go_simp
                refine hK _ _ ?_
                clear hK K
                refine wpAnyIn_done (by kernel_rfl) ?_ _
                gi_wp2
                all_goals (first | go_returns | go_ret | go_end0)
                exact ⟨⟨_, rfl⟩, ⟨_, HO5.out⟩, HPB.out, HBE.out⟩
              exact AllReadyIn.nil
            exact AllReadyIn.nil
          exact AllReadyIn.nil
        exact AllReadyIn.nil
      exact AllReadyIn.nil
    refine AllReadyIn.cons rfl (fun K hK => ?_) ?_
    · go_simp
      refine hK _ _ ?_
      clear hK K
      refine wpAnyIn_ready (rs := [0, 3]) (by kernel_rfl) (by simp) ?_
      refine AllReadyIn.cons rfl (fun K hK => ?_) ?_
      · go_simp
        refine hK _ _ ?_
        clear hK K
        refine wpAnyIn_ready (rs := [3]) (by kernel_rfl) (by simp) ?_
        refine AllReadyIn.cons rfl (fun K hK => ?_) ?_
        · go_simp
          gi_wp2_with (gi_at_call 58; refine HHo.out.mono ?_; rintro e w2 ⟨rfl, hB2⟩; have hO2 := HO1.out.drew.below hB2; have co2 := hO2.box.cell; have hbo2 := hO2.box.lt; obtain ⟨v2, w5, hrun, hbx, ho5, hbe, hpb, o5, c5', rfl⟩ := hO2.add (h : Int) HL.out; have cx := hbx.cell; have fx := hbx.frozen; have HRUN := Hid.intro hrun; have HO5 := Hid.intro ho5; have HPB : Hid (∀ b z, PosBox w b z → PosBox _ b z) := fun b z hp => hpb b z (((hp.below HB1.out).below (drewN_below0 W1)).below hB2); have HBE := Hid.intro ((HB1.out.mono (Nat.le_of_lt hbow)).trans (((drewN_below0 W1).mono (Nat.le_of_lt hbol)).trans ((hB2.mono (Nat.le_of_lt hbol)).trans hbe))); clear hO2 hbx ho5 hbe hpb hB2 hrun)
          refine wpAnyIn_ready (rs := [4]) (by kernel_rfl) (by simp) ?_
          refine AllReadyIn.cons rfl (fun K hK => ?_) ?_
          · go_simp
            refine hK _ _ ?_
            clear hK K
            refine wpAnyIn_ready (rs := [5]) (by kernel_rfl) (by simp) ?_
            refine AllReadyIn.cons rfl (fun K hK => ?_) ?_
            · refine step_append (by rfl) rfl rfl rfl HRUN.out ?_
              refine hK _ _ ?_
              clear hK K
              simp only [Go.Act.put, List.setIfInBounds_toArray, List.set_cons_succ, List.set_cons_zero]
              refine wpAnyIn_ready (rs := [6]) (by kernel_rfl) (by simp) ?_
              refine AllReadyIn.cons rfl (fun K hK => ?_) ?_
              · go_simp
                refine hK _ _ ?_
                clear hK K
                refine wpAnyIn_done (by kernel_rfl) ?_ _
                gi_wp2
                all_goals (first | go_returns | go_ret | go_end0)
                exact ⟨⟨_, rfl⟩, ⟨_, HO5.out⟩, HPB.out, HBE.out⟩
              exact AllReadyIn.nil
            exact AllReadyIn.nil
          exact AllReadyIn.nil
        exact AllReadyIn.nil
      refine AllReadyIn.cons rfl (fun K hK => ?_) ?_
      · go_simp
        gi_wp2_with (gi_at_call 58; refine HHo.out.mono ?_; rintro e w2 ⟨rfl, hB2⟩; have hO2 := HO1.out.drew.below hB2; have co2 := hO2.box.cell; have hbo2 := hO2.box.lt; obtain ⟨v2, w5, hrun, hbx, ho5, hbe, hpb, o5, c5', rfl⟩ := hO2.add (h : Int) HL.out; have cx := hbx.cell; have fx := hbx.frozen; have HRUN := Hid.intro hrun; have HO5 := Hid.intro ho5; have HPB : Hid (∀ b z, PosBox w b z → PosBox _ b z) := fun b z hp => hpb b z (((hp.below HB1.out).below (drewN_below0 W1)).below hB2); have HBE := Hid.intro ((HB1.out.mono (Nat.le_of_lt hbow)).trans (((drewN_below0 W1).mono (Nat.le_of_lt hbol)).trans ((hB2.mono (Nat.le_of_lt hbol)).trans hbe))); clear hO2 hbx ho5 hbe hpb hB2 hrun)
        refine wpAnyIn_ready (rs := [0, 4]) (by kernel_rfl) (by simp) ?_
        refine AllReadyIn.cons rfl (fun K hK => ?_) ?_
        · go_simp
          refine hK _ _ ?_
          clear hK K
          refine wpAnyIn_ready (rs := [4]) (by kernel_rfl) (by simp) ?_
          refine AllReadyIn.cons rfl (fun K hK => ?_) ?_
          · go_simp
            refine hK _ _ ?_
            clear hK K
            refine wpAnyIn_ready (rs := [5]) (by kernel_rfl) (by simp) ?_
            refine AllReadyIn.cons rfl (fun K hK => ?_) ?_
            · refine step_append (by rfl) rfl rfl rfl HRUN.out ?_
              refine hK _ _ ?_
              clear hK K
              simp only [Go.Act.put, List.setIfInBounds_toArray, List.set_cons_succ, List.set_cons_zero]
              refine wpAnyIn_ready (rs := [6]) (by kernel_rfl) (by simp) ?_
              refine AllReadyIn.cons rfl (fun K hK => ?_) ?_
              · go_simp
                refine hK _ _ ?_
                clear hK K
                refine wpAnyIn_done (by kernel_rfl) ?_ _
                gi_wp2
                all_goals (first | go_returns | go_ret | go_end0)
                exact ⟨⟨_, rfl⟩, ⟨_, HO5.out⟩, HPB.out, HBE.out⟩
              exact AllReadyIn.nil
            exact AllReadyIn.nil
          exact AllReadyIn.nil
        refine AllReadyIn.cons rfl (fun K hK => ?_) ?_
        · go_simp
          refine hK _ _ ?_
          clear hK K
          refine wpAnyIn_ready (rs := [0]) (by kernel_rfl) (by simp) ?_
          refine AllReadyIn.cons rfl (fun K hK => ?_) ?_
          · go_simp
            refine hK _ _ ?_
            clear hK K
            refine wpAnyIn_ready (rs := [5]) (by kernel_rfl) (by simp) ?_
            refine AllReadyIn.cons rfl (fun K hK => ?_) ?_
            · refine step_append (by rfl) rfl rfl rfl HRUN.out ?_
              refine hK _ _ ?_
              clear hK K
              simp only [Go.Act.put, List.setIfInBounds_toArray, List.set_cons_succ, List.set_cons_zero]
              refine wpAnyIn_ready (rs := [6]) (by kernel_rfl) (by simp) ?_
              refine AllReadyIn.cons rfl (fun K hK => ?_) ?_
              · go_simp
                refine hK _ _ ?_
                clear hK K
                refine wpAnyIn_done (by kernel_rfl) ?_ _
                gi_wp2
                all_goals (first | go_returns | go_ret | go_end0)
                exact ⟨⟨_, rfl⟩, ⟨_, HO5.out⟩, HPB.out, HBE.out⟩
              exact AllReadyIn.nil
            exact AllReadyIn.nil
          exact AllReadyIn.nil
        exact AllReadyIn.nil
      exact AllReadyIn.nil
    exact AllReadyIn.nil
  refine AllReadyIn.cons rfl (fun K hK => ?_) ?_
  · go_simp
    refine hK _ _ ?_
    clear hK K
    refine wpAnyIn_ready (rs := [0, 1]) (by kernel_rfl) (by simp) ?_
    refine AllReadyIn.cons rfl (fun K hK => ?_) ?_
    · go_simp
      refine hK _ _ ?_
      clear hK K
      refine wpAnyIn_ready (rs := [1]) (by kernel_rfl) (by simp) ?_
      refine AllReadyIn.cons rfl (fun K hK => ?_) ?_
      · go_simp
        refine hK _ _ ?_
        clear hK K
        refine wpAnyIn_ready (rs := [3]) (by kernel_rfl) (by simp) ?_
        refine AllReadyIn.cons rfl (fun K hK => ?_) ?_
        · go_simp
          gi_wp2_with (gi_at_call 58; refine HHo.out.mono ?_; rintro e w2 ⟨rfl, hB2⟩; have hO2 := HO1.out.drew.below hB2; have co2 := hO2.box.cell; have hbo2 := hO2.box.lt; obtain ⟨v2, w5, hrun, hbx, ho5, hbe, hpb, o5, c5', rfl⟩ := hO2.add (h : Int) HL.out; have cx := hbx.cell; have fx := hbx.frozen; have HRUN := Hid.intro hrun; have HO5 := Hid.intro ho5; have HPB : Hid (∀ b z, PosBox w b z → PosBox _ b z) := fun b z hp => hpb b z (((hp.below HB1.out).below (drewN_below0 W1)).below hB2); have HBE := Hid.intro ((HB1.out.mono (Nat.le_of_lt hbow)).trans (((drewN_below0 W1).mono (Nat.le_of_lt hbol)).trans ((hB2.mono (Nat.le_of_lt hbol)).trans hbe))); clear hO2 hbx ho5 hbe hpb hB2 hrun)
          refine wpAnyIn_ready (rs := [4]) (by kernel_rfl) (by simp) ?_
          refine AllReadyIn.cons rfl (fun K hK => ?_) ?_
          · go_simp
            refine hK _ _ ?_
            clear hK K
            refine wpAnyIn_ready (rs := [5]) (by kernel_rfl) (by simp) ?_
            refine AllReadyIn.cons rfl (fun K hK => ?_) ?_
            · refine step_append (by rfl) rfl rfl rfl HRUN.out ?_
              refine hK _ _ ?_
              clear hK K
              simp only [Go.Act.put, List.setIfInBounds_toArray, List.set_cons_succ, List.set_cons_zero]
              refine wpAnyIn_ready (rs := [6]) (by kernel_rfl) (by simp) ?_
              refine AllReadyIn.cons rfl (fun K hK => ?_) ?_
              · go_simp
                refine hK _ _ ?_
                clear hK K
                refine wpAnyIn_done (by kernel_rfl) ?_ _
                gi_wp2
                all_goals (first | go_returns | go_ret | go_end0)
                exact ⟨⟨_, rfl⟩, ⟨_, HO5.out⟩, HPB.out, HBE.out⟩
              exact AllReadyIn.nil
            exact AllReadyIn.nil
          exact AllReadyIn.nil
        exact AllReadyIn.nil
      exact AllReadyIn.nil
    refine AllReadyIn.cons rfl (fun K hK => ?_) ?_
    · go_simp
      refine hK _ _ ?_
      clear hK K
      refine wpAnyIn_ready (rs := [0, 3]) (by kernel_rfl) (by simp) ?_
      refine AllReadyIn.cons rfl (fun K hK => ?_) ?_
      · go_simp
        refine hK _ _ ?_
        clear hK K
        refine wpAnyIn_ready (rs := [3]) (by kernel_rfl) (by simp) ?_
        refine AllReadyIn.cons rfl (fun K hK => ?_) ?_
        · go_simp
          gi_wp2_with (gi_at_call 58; refine HHo.out.mono ?_; rintro e w2 ⟨rfl, hB2⟩; have hO2 := HO1.out.drew.below hB2; have co2 := hO2.box.cell; have hbo2 := hO2.box.lt; obtain ⟨v2, w5, hrun, hbx, ho5, hbe, hpb, o5, c5', rfl⟩ := hO2.add (h : Int) HL.out; have cx := hbx.cell; have fx := hbx.frozen; have HRUN := Hid.intro hrun; have HO5 := Hid.intro ho5; have HPB : Hid (∀ b z, PosBox w b z → PosBox _ b z) := fun b z hp => hpb b z (((hp.below HB1.out).below (drewN_below0 W1)).below hB2); have HBE := Hid.intro ((HB1.out.mono (Nat.le_of_lt hbow)).trans (((drewN_below0 W1).mono (Nat.le_of_lt hbol)).trans ((hB2.mono (Nat.le_of_lt hbol)).trans hbe))); clear hO2 hbx ho5 hbe hpb hB2 hrun)
          refine wpAnyIn_ready (rs := [4]) (by kernel_rfl) (by simp) ?_
          refine AllReadyIn.cons rfl (fun K hK => ?_) ?_
          · go_simp
            refine hK _ _ ?_
            clear hK K
            refine wpAnyIn_ready (rs := [5]) (by kernel_rfl) (by simp) ?_
            refine AllReadyIn.cons rfl (fun K hK => ?_) ?_
            · refine step_append (by rfl) rfl rfl rfl HRUN.out ?_
              refine hK _ _ ?_
              clear hK K
              simp only [Go.Act.put, List.setIfInBounds_toArray, List.set_cons_succ, List.set_cons_zero]
              refine wpAnyIn_ready (rs := [6]) (by kernel_rfl) (by simp) ?_
              refine AllReadyIn.cons rfl (fun K hK => ?_) ?_
              · go_simp
                refine hK _ _ ?_
                clear hK K
                refine wpAnyIn_done (by kernel_rfl) ?_ _
                gi_wp2
                all_goals (first | go_returns | go_ret | go_end0)
                exact ⟨⟨_, rfl⟩, ⟨_, HO5.out⟩, HPB.out, HBE.out⟩
              exact AllReadyIn.nil
            exact AllReadyIn.nil
          exact AllReadyIn.nil
        exact AllReadyIn.nil
      refine AllReadyIn.cons rfl (fun K hK => ?_) ?_
      · go_simp
        gi_wp2_with (gi_at_call 58; refine HHo.out.mono ?_; rintro e w2 ⟨rfl, hB2⟩; have hO2 := HO1.out.drew.below hB2; have co2 := hO2.box.cell; have hbo2 := hO2.box.lt; obtain ⟨v2, w5, hrun, hbx, ho5, hbe, hpb, o5, c5', rfl⟩ := hO2.add (h : Int) HL.out; have cx := hbx.cell; have fx := hbx.frozen; have HRUN := Hid.intro hrun; have HO5 := Hid.intro ho5; have HPB : Hid (∀ b z, PosBox w b z → PosBox _ b z) := fun b z hp => hpb b z (((hp.below HB1.out).below (drewN_below0 W1)).below hB2); have HBE := Hid.intro ((HB1.out.mono (Nat.le_of_lt hbow)).trans (((drewN_below0 W1).mono (Nat.le_of_lt hbol)).trans ((hB2.mono (Nat.le_of_lt hbol)).trans hbe))); clear hO2 hbx ho5 hbe hpb hB2 hrun)
        refine wpAnyIn_ready (rs := [0, 4]) (by kernel_rfl) (by simp) ?_
        refine AllReadyIn.cons rfl (fun K hK => ?_) ?_
        · go_simp
          refine hK _ _ ?_
          clear hK K
          refine wpAnyIn_ready (rs := [4]) (by kernel_rfl) (by simp) ?_
          refine AllReadyIn.cons rfl (fun K hK => ?_) ?_
          · go_simp
            refine hK _ _ ?_
            clear hK K
            refine wpAnyIn_ready (rs := [5]) (by kernel_rfl) (by simp) ?_
            refine AllReadyIn.cons rfl (fun K hK => ?_) ?_
            · refine step_append (by rfl) rfl rfl rfl HRUN.out ?_
              refine hK _ _ ?_
              clear hK K
              simp only [Go.Act.put, List.setIfInBounds_toArray, List.set_cons_succ, List.set_cons_zero]
              refine wpAnyIn_ready (rs := [6]) (by kernel_rfl) (by simp) ?_
              refine AllReadyIn.cons rfl (fun K hK => ?_) ?_
              · go_simp
                refine hK _ _ ?_
                clear hK K
                refine wpAnyIn_done (by kernel_rfl) ?_ _
                gi_wp2
                all_goals (first | go_returns | go_ret | go_end0)
                exact ⟨⟨_, rfl⟩, ⟨_, HO5.out⟩, HPB.out, HBE.out⟩
              exact AllReadyIn.nil
            exact AllReadyIn.nil
          exact AllReadyIn.nil
        refine AllReadyIn.cons rfl (fun K hK => ?_) ?_
        · go_simp
          refine hK _ _ ?_
          clear hK K
          refine wpAnyIn_ready (rs := [0]) (by kernel_rfl) (by simp) ?_
          refine AllReadyIn.cons rfl (fun K hK => ?_) ?_
          · go_simp
            refine hK _ _ ?_
            clear hK K
            refine wpAnyIn_ready (rs := [5]) (by kernel_rfl) (by simp) ?_
            refine AllReadyIn.cons rfl (fun K hK => ?_) ?_
            · refine step_append (by rfl) rfl rfl rfl HRUN.out ?_
              refine hK _ _ ?_
              clear hK K
              simp only [Go.Act.put, List.setIfInBounds_toArray, List.set_cons_succ, List.set_cons_zero]
              refine wpAnyIn_ready (rs := [6]) (by kernel_rfl) (by simp) ?_
              refine AllReadyIn.cons rfl (fun K hK => ?_) ?_
              · go_simp
                refine hK _ _ ?_
                clear hK K
                refine wpAnyIn_done (by kernel_rfl) ?_ _
                gi_wp2
                all_goals (first | go_returns | go_ret | go_end0)
                exact ⟨⟨_, rfl⟩, ⟨_, HO5.out⟩, HPB.out, HBE.out⟩
              exact AllReadyIn.nil
            exact AllReadyIn.nil
          exact AllReadyIn.nil
        exact AllReadyIn.nil
      exact AllReadyIn.nil
    exact AllReadyIn.nil
  exact AllReadyIn.nil
end Go.Eng

namespace Go.Eng
open Go.RowKit Go.Proofs Go.Proofs.YtjcmalmcijpnnaaDoor

/-- Where the hole is. -/
def holeF (N : Nat) (z : Nat → Int) : Nat := ((List.range N).find? fun i => z i == 0).getD 0
theorem holeF_eq {N h : Nat} {z : Nat → Int} (hz : PosZ z N h) : holeF N z = h := by
  unfold holeF
  cases hf : (List.range N).find? fun i => z i == 0 with
  | none =>
    have := List.find?_eq_none.1 hf h (List.mem_range.2 hz.lt)
    rw [hz.zero] at this
    simp at this
  | some j =>
    have h1 := List.find?_some hf
    have h2 := List.mem_of_find?_eq_some hf
    rw [beq_iff_eq] at h1
    apply Classical.byContradiction
    intro hne
    exact hz.only j (List.mem_range.1 h2) hne h1

/-- A way back to the first position. -/
def DownTo (qs : List (Nat × Nat)) (N : Nat) (s : Nat → Int) : (Nat → Int) → List (Nat → Int) → Prop
  | x, [] => x = s
  | x, y :: r => Mov qs N y x ∧ DownTo qs N s y r
def holesUp (N : Nat) : (Nat → Int) → List (Nat → Int) → List Int
  | _, [] => []
  | x, y :: r => (holeF N x : Int) :: holesUp N y r
def holesDn (N : Nat) : (Nat → Int) → List (Nat → Int) → List Int
  | _, [] => []
  | _, y :: r => (holeF N y : Int) :: holesDn N y r

theorem PosBox.frozen {W : World} {b : Nat} {z : Nat → Int} (h : PosBox W b z) (i : Nat) : W.frozen? ⟨b, i, none⟩ = false := by
  rw [World.frozen?, show W.heap[b]? = _ from h]
  simp
theorem grown_drew (w : World) (b : Nat) : w.grownBy w.drew (some b) := ⟨rfl, rfl, rfl, Nat.le_refl _, fun _ _ _ => rfl⟩
theorem grown_set {w w' : World} {b : Nat} (h : w.grownBy w' (some b)) (i : Nat) (v : Value) : w.grownBy (w'.setCell ⟨b, i, none⟩ v) (some b) := grownBy_trans_to h (grownBy_set w' ⟨b, i, none⟩ v) (fun k e => .inl (by injection e with e; exact e.symm))
/-- What a box holds. -/
def readPos (W : World) (b : Nat) : Nat → Int := fun i => match W.cell? ⟨b, i, none⟩ with | some (.int .i8 v) => v | _ => 0
theorem look_same {z z' : Nat → Int} (h : ∀ i, i < 9 → z i = z' i) : ∀ es : List Known, lookK es z = lookK es z'
  | [] => rfl
  | k :: r => by
    have e : avk z = avk z' := by
      unfold avk
      rw [h 0 (by omega), h 1 (by omega), h 2 (by omega), h 3 (by omega), h 4 (by omega), h 5 (by omega), h 6 (by omega), h 7 (by omega), h 8 (by omega)]
    have e2 : same9 z k.at_ = same9 z' k.at_ := by unfold same9; rw [e]
    simp only [lookK]
    rw [e2, look_same h r]
def leftK (es : List Known) (W : World) (b : Nat) : Nat := ((lookK es (readPos W b)).map (·.depth)).getD 0
theorem leftK_eq {es : List Known} {W : World} {b : Nat} {z : Nat → Int} {k : Known} (h : PosBox W b z) (hk : lookK es z = some k) : leftK es W b = k.depth := by
  unfold leftK
  rw [look_same (z' := z) (fun i hi => by unfold readPos; rw [h.cell i hi]), hk]
  rfl

/-- It comes to its end with this. -/
def AtRel (R : CAct → World → Prop) : Exit → CAct → World → Prop
  | .normal, a, w => R a w
  | _, _, _ => False
theorem region_rel {F : Fence} {n : Nat} {P : Program} {c : Code} {Q : Exit → CAct → World → Prop} {a : CAct} {w : World} (R : CAct → World → Prop) (h : ∀ a' w', R a' w' → Q .normal a' w') (hr : c.wpIn F n P (AtRel R) a w) : c.wpIn F n P Q a w :=
  wpIn_mono hr fun e a w hh => by
    cases e with
    | normal => exact h a w hh
    | _ => exact hh.elim

theorem field107_before (b : Nat → Int) (d : Int) (W : World) : (Instr.field 107 (stepV b d) 0).run Tryd.prog W = .ok (.agg (pos9 b)) W := by
  kernel_rfl
theorem pos_set {W : World} {b : Nat} {z z' : Nat → Int} (h : PosBox W b z) : PosBox (((((((((W.setCell ⟨b, 0, none⟩ (.int .i8 (z' 0))).setCell ⟨b, 1, none⟩ (.int .i8 (z' 1))).setCell ⟨b, 2, none⟩ (.int .i8 (z' 2))).setCell ⟨b, 3, none⟩ (.int .i8 (z' 3))).setCell ⟨b, 4, none⟩ (.int .i8 (z' 4))).setCell ⟨b, 5, none⟩ (.int .i8 (z' 5))).setCell ⟨b, 6, none⟩ (.int .i8 (z' 6))).setCell ⟨b, 7, none⟩ (.int .i8 (z' 7))).setCell ⟨b, 8, none⟩ (.int .i8 (z' 8))) b z' := by
  have st : ∀ (w : World) (c : Array Value) (i : Nat) (v : Value), w.heap[b]? = some (.cells c 83 (0, 0)) → (w.setCell ⟨b, i, none⟩ v).heap[b]? = some (.cells (c.setIfInBounds i v) 83 (0, 0)) := fun w c i v hw => by
    obtain ⟨hlt, hk⟩ := Array.getElem?_eq_some_iff.1 hw
    show (w.heap.modify b _)[b]? = _
    rw [Array.getElem?_eq_getElem (by rw [Array.size_modify]; exact hlt), Array.getElem_modify_self, hk]
    rfl
  have h9 := st _ _ 8 (.int .i8 (z' 8)) (st _ _ 7 (.int .i8 (z' 7)) (st _ _ 6 (.int .i8 (z' 6)) (st _ _ 5 (.int .i8 (z' 5)) (st _ _ 4 (.int .i8 (z' 4)) (st _ _ 3 (.int .i8 (z' 3)) (st _ _ 2 (.int .i8 (z' 2)) (st _ _ 1 (.int .i8 (z' 1)) (st W (pos9 z) 0 (.int .i8 (z' 0)) h))))))))
  simp only [pos9, List.setIfInBounds_toArray, List.set_cons_zero, List.set_cons_succ] at h9
  exact h9


set_option maxRecDepth 100000 in
set_option maxHeartbeats 16000000 in
/-- **Back to the first position; the hole behind each move is noted.** -/
theorem back67_calls (w : World) (gb g m bo bb N : Nat) (hN : 2 ≤ N ∧ N ≤ 9) (qs : List (Nat × Nat)) (s : Nat → Int) (hs0 : Pos N s) (es : List Known) (hst : ∃ ve, w.heap[g]? = some (.cells #[.pointer (some ⟨gb, 0, none⟩), .map (some m), ve] 91 (0, 0))) (hm : MapAt w m es) (hkn : ∀ k ∈ es, KnownOK qs N s k)
    (hbd : BoardAt w gb N (nxs qs)) (x : Nat → Int) (hx : Pos N x) (k : Known) (hk : lookK es x = some k) (v : Value) (ms : List Int) (hml : ms.length + k.depth ≤ 1000000) (hO : OutAt w bo v ms) (hbb : Boxed w bb 78 (.pointer (some ⟨gb, 0, none⟩))) (hlow : g < bo ∧ m < bo ∧ bb < bo ∧ gb < bo) (hall : ∀ z d, DistE (Mov qs N) s d z → d ≤ k.depth → ∃ c, lookK es z = some c) :
    CallsIn Fence.wide 0 Tryd.prog 66 #[.pointer (some ⟨g, 0, none⟩), .agg (pos9 x), .func (.func 67) #[] #[.pointer (some ⟨bo, 0, none⟩), .pointer (some ⟨bb, 0, none⟩)]] w fun e w' => (∃ v, e = .returned v) ∧ (∃ v' ys, OutAt w' bo v' (ms ++ holesUp N x ys) ∧ DownTo qs N s x ys ∧ ys.length = k.depth) ∧ Below bo w w' := by
  obtain ⟨ve, hst⟩ := hst
  have HST := Hid.intro hst
  have HM := Hid.intro hm
  have HKN := Hid.intro hkn
  have HBD := Hid.intro hbd
  have HX := Hid.intro hx
  have HO0 := Hid.intro hO
  have HBB := Hid.intro hbb
  have HALL := Hid.intro hall
  have HK0 := Hid.intro hk
  have hbow := hO.box.lt
  have HB1 : Hid (Below w.heap.size w (w.alloc (.cells (pos9 x) 83))) := (Below.refl _ _).alloc (Nat.le_refl _) _
  have HP1 : Hid (PosBox (w.alloc (.cells (pos9 x) 83)) w.heap.size x) := World.alloc_heap_new _ _
  obtain ⟨W1, hW1⟩ : ∃ W1, W1 = w.alloc (.cells (pos9 x) 83) := ⟨_, rfl⟩
  rw [← hW1] at HB1 HP1
  have HW1 := Hid.intro hW1
  clear hst hm hkn hbd hx hk hO hbb hall hW1
  refine callsIn_of_wp Tryd.func66 rfl trivial ?_ rfl
  simp only [Tryd.ntmps66, List.size_toArray, List.length_cons, List.length_nil, Nat.reduceAdd, Nat.reduceSub, Array.replicate_succ, Array.replicate_zero, List.push_toArray, List.append_toArray, List.nil_append, List.cons_append]
  gi_wp2
  rw [← HW1.out]
  gi_loopw [6] (fun _ wr => ∃ (cur : Nat → Int) (hs : List Int) (v : Value) (c : Known), Hid (PosBox wr w.heap.size cur) ∧ Hid (lookK es cur = some c) ∧ Hid (Pos N cur) ∧ Hid (OutAt wr bo v (ms ++ hs)) ∧ hs.length + c.depth = k.depth ∧ Hid (∀ ys', DownTo qs N s cur ys' → ∃ ys, DownTo qs N s x ys ∧ ys.length = hs.length + ys'.length ∧ holesUp N x ys = hs ++ holesUp N cur ys') ∧ Hid (Below bo w wr)) (fun _ wr => leftK es wr w.heap.size)
  case atStart => exact ⟨x, [], v, k, HP1.out, HK0.out, HX.out, Hid.intro (by rw [List.append_nil]; exact HO0.out.below HB1.out), by simp, Hid.intro (fun ys h => ⟨ys, h, by simp, rfl⟩), HB1.out.mono (Nat.le_of_lt hbow)⟩
  case round =>
    obtain ⟨cur, hs, v', c, HPc, HKc, HPos, HOc, hlen, HY, HBr⟩ := hrel
    have hcg : wr.cell? ⟨g, 1, none⟩ = some (.map (some m)) := by rw [World.cell?, HBr.out.block g hlow.1, HST.out]; rfl
    have hMr := HM.out.kept (HBr.out.block m hlow.2.1)
    have hlk := look_there (w := wr.drew) (m := m) hMr HKc.out false
    have hck : c ∈ es ∧ c.at_ = cur := (lookK_mem hN.2 hs0 HKN.out HPos.out).2 c HKc.out
    have hko := HKN.out c hck.1
    obtain ⟨hkd, hkb⟩ := hko
    rw [hck.2] at hkd hkb
    obtain ⟨y, hy⟩ : ∃ y, c.before = y := ⟨_, rfl⟩
    rw [hy] at hlk hkb
    simp only [cond_false] at hlk
    have hfb := field107_before y (c.depth : Int) wr.drew
    have hneq : (Op.equalIn 10000 83 (.agg (pos9 y)) (.agg (pos9 cur))).run Tryd.prog wr.drew = .ok (same9 y cur) wr.drew := equal_run (avk_fits y) (avk_fits cur) (avk_VR y) (avk_VR cur) 9998 wr.drew
    have HLK := Hid.intro hlk
    have HFB := Hid.intro hfb
    have hc0 := HPc.out.cell
    have c0 := hc0 0 (by omega)
    have c1 := hc0 1 (by omega)
    have c2 := hc0 2 (by omega)
    have c3 := hc0 3 (by omega)
    have c4 := hc0 4 (by omega)
    have c5 := hc0 5 (by omega)
    have c6 := hc0 6 (by omega)
    have c7 := hc0 7 (by omega)
    have c8 := hc0 8 (by omega)
    clear hc0
    gi_wp2
    refine wpIn_region_lexS (ro := none) [] [[0], [0], [0], [0], [0], [0], [0], [0], [0]] (fun _ => wr.drew) follows 32 rfl (by kernel_rfl) rfl ?_
    refine LexS.read (.pointer (some ⟨g, 0, none⟩)) rfl ?_ ?_
    · intro s hs
      simp only [List.mem_cons, List.not_mem_nil, or_false] at hs
      subst hs
      simp [execOp, go_sem]
    simp only [Go.Act.put, List.setIfInBounds_toArray, List.set_cons_succ, List.set_cons_zero, Nat.zero_add, Nat.reduceAdd]
    refine LexS.read (.pointer (some ⟨g, 0, none⟩)) rfl ?_ ?_
    · intro s hs
      simp only [List.mem_cons, List.not_mem_nil, or_false] at hs
      subst hs
      simp [execOp, go_sem]
    simp only [Go.Act.put, List.setIfInBounds_toArray, List.set_cons_succ, List.set_cons_zero, Nat.zero_add, Nat.reduceAdd]
    refine LexS.read (.pointer (some ⟨g, 1, none⟩)) rfl ?_ ?_
    · intro s hs
      simp only [List.mem_cons, List.not_mem_nil, or_false] at hs
      subst hs
      simp [execOp, go_sem]
    simp only [Go.Act.put, List.setIfInBounds_toArray, List.set_cons_succ, List.set_cons_zero, Nat.zero_add, Nat.reduceAdd]
    refine LexS.read (.map (some m)) rfl ?_ ?_
    · intro s hs
      simp only [List.mem_cons, List.not_mem_nil, or_false] at hs
      subst hs
      simp [execOp, go_sem, hcg]
    simp only [Go.Act.put, List.setIfInBounds_toArray, List.set_cons_succ, List.set_cons_zero, Nat.zero_add, Nat.reduceAdd]
    refine LexS.read (.agg (pos9 cur)) rfl ?_ ?_
    · intro s hs
      simp only [List.mem_cons, List.not_mem_nil, or_false] at hs
      subst hs
      simp [execOp, go_sem, c0, c1, c2, c3, c4, c5, c6, c7, c8, pos9]
    simp only [Go.Act.put, List.setIfInBounds_toArray, List.set_cons_succ, List.set_cons_zero, Nat.zero_add, Nat.reduceAdd]
    refine LexS.read (stepV y (c.depth : Int)) rfl ?_ ?_
    · intro s hs
      simp only [List.mem_cons, List.not_mem_nil, or_false] at hs
      subst hs
      simp [execOp, go_sem, hlk]
    simp only [Go.Act.put, List.setIfInBounds_toArray, List.set_cons_succ, List.set_cons_zero, Nat.zero_add, Nat.reduceAdd]
    refine LexS.read (.agg (pos9 y)) rfl ?_ ?_
    · intro s hs
      simp only [List.mem_cons, List.not_mem_nil, or_false] at hs
      subst hs
      simp [execOp, go_sem, hfb]
    simp only [Go.Act.put, List.setIfInBounds_toArray, List.set_cons_succ, List.set_cons_zero, Nat.zero_add, Nat.reduceAdd]
    refine LexS.read (.agg (pos9 cur)) rfl ?_ ?_
    · intro s hs
      simp only [List.mem_cons, List.not_mem_nil, or_false] at hs
      subst hs
      simp [execOp, go_sem, c0, c1, c2, c3, c4, c5, c6, c7, c8, pos9]
    simp only [Go.Act.put, List.setIfInBounds_toArray, List.set_cons_succ, List.set_cons_zero, Nat.zero_add, Nat.reduceAdd]
    refine LexS.read (.bool (!same9 y cur)) rfl ?_ ?_
    · intro s hs
      simp only [List.mem_cons, List.not_mem_nil, or_false] at hs
      subst hs
      simp [execOp, go_sem, hneq]
    simp only [Go.Act.put, List.setIfInBounds_toArray, List.set_cons_succ, List.set_cons_zero, Nat.zero_add, Nat.reduceAdd]
    refine LexS.done ?_
    obtain ⟨wq, hwq⟩ : ∃ wq, wq = wr.drew := ⟨_, rfl⟩
    have HPq : Hid (PosBox wq w.heap.size cur) := by rw [hwq]; exact HPc.out
    have HOq : Hid (OutAt wq bo v' (ms ++ hs)) := by rw [hwq]; exact HOc.out.drew
    have HBq : Hid (Below bo w wq) := by rw [hwq]; exact ⟨HBr.out.os, HBr.out.tape, HBr.out.output, HBr.out.size, HBr.out.block⟩
    have HLQ : Hid (leftK es wr w.heap.size = c.depth) := leftK_eq HPc.out HKc.out
    cases hsm : same9 y cur with
    | true =>
      simp only [Bool.not_true, ← hwq]
      have HSM := Hid.intro hsm
      have hkd' := hkd
      clear hwq hsm HPc HOc HBr hlk hfb hneq c0 c1 c2 c3 c4 c5 c6 c7 c8 hcg
      have hcs : cur = s ∧ c.depth = 0 := by
        rcases hkb with ⟨h0, _⟩ | ⟨d, h1, h2, h3⟩
        · rw [h0] at hkd'
          exact ⟨hkd'.of_zero, h0⟩
        · exfalso
          have hyp := h2.1.pos hs0
          have := (same9_eq hN.2 hyp HPos.out).1 HSM.out
          subst this
          have := hkd'.unique h2
          omega
      have HCS := Hid.intro hcs
      clear hcs hkd hkd' hkb
      gi_wp2
      all_goals (first | go_returns | go_ret | go_end0)
      obtain ⟨ys, h1, h2, h3⟩ := HY.out [] HCS.out.1
      have h0 := HCS.out.2
      refine ⟨⟨_, rfl⟩, ⟨v', ys, ?_, h1, by rw [h2]; simp; omega⟩, HBq.out⟩
      rw [h3]
      simp only [holesUp, List.append_nil]
      exact HOq.out
    | false =>
      simp only [Bool.not_false, ← hwq]
      have hdep : ∃ d, c.depth = d + 1 ∧ DistE (Mov qs N) s d y ∧ Mov qs N y cur := by
        rcases hkb with ⟨h0, h1⟩ | h
        · subst h1
          have : same9 y y = true := same9_iff.2 fun _ _ => rfl
          rw [this] at hsm
          cases hsm
        · exact h
      obtain ⟨d, hcd, hyd, hmv⟩ := hdep
      obtain ⟨k2, hc2⟩ := HALL.out y d hyd (by omega)
      have hyP := hmv.1
      have hc2k := (lookK_mem hN.2 hs0 HKN.out hyP).2 k2 hc2
      have hc2d : k2.depth = d := by
        have := (HKN.out k2 hc2k.1).1
        rw [hc2k.2] at this
        exact this.unique hyd
      have HC2 := Hid.intro hc2
      have HYP := Hid.intro hyP
      have HMV := Hid.intro hmv
      obtain ⟨h, hhz⟩ := (show Pos N cur from HPos.out).ex_hole (by omega) (by omega)
      have HHF : Hid (holeF N cur = h) := holeF_eq hhz
      have HE := Hid.intro (each67_calls wq.drew bo bb gb N (nxs qs) hN y cur h hhz v' (ms ++ hs) (by rw [List.length_append]; omega) HOq.out.drew (show Boxed wq.drew bb 78 _ from (HBq.out.block bb hlow.2.2.1).trans HBB.out) (HBD.out.from (base := bo) hlow.2.2.2 ⟨HBq.out.os, HBq.out.tape, HBq.out.output, HBq.out.size, HBq.out.block⟩))
      have HDD : Hid (k2.depth + 1 = c.depth) := Hid.intro (by omega)
      unfold pos9 at HE
      have hMq : MapAt wq m es := HM.out.kept (HBq.out.block m hlow.2.1)
      have hcgq : wq.cell? ⟨g, 1, none⟩ = some (.map (some m)) := by rw [World.cell?, HBq.out.block g hlow.1, HST.out]; rfl
      have hlq := look_there (w := wq.drew) (m := m) hMq HKc.out false
      rw [hy] at hlq
      simp only [cond_false] at hlq
      have hfq := field107_before y (c.depth : Int) wq.drew
      have q0 := HPq.out.cell
      have q0' := q0 0 (by omega)
      have q1' := q0 1 (by omega)
      have q2' := q0 2 (by omega)
      have q3' := q0 3 (by omega)
      have q4' := q0 4 (by omega)
      have q5' := q0 5 (by omega)
      have q6' := q0 6 (by omega)
      have q7' := q0 7 (by omega)
      have q8' := q0 8 (by omega)
      have HMQ := Hid.intro hMq
      have hks1 : c.depth ≤ k.depth := by omega
      clear q0 hwq hsm hlk hfb hneq c0 c1 c2 c3 c4 c5 c6 c7 c8 hcg HPc HOc HBr hMr hcd
      gi_wp2
      refine region_rel (fun a' w' => ∃ u v2, a' = { tmps := #[.pointer (some ⟨g, 0, none⟩), .agg (pos9 x), .func (.func 67) #[] #[.pointer (some ⟨bo, 0, none⟩), .pointer (some ⟨bb, 0, none⟩)], undef, .pointer (some ⟨w.heap.size, 0, none⟩), undef, .pointer (some ⟨g, 0, none⟩), .pointer (some ⟨g, 0, none⟩), .pointer (some ⟨g, 1, none⟩), .map (some m), .agg (pos9 cur), stepV y (c.depth : Int), .agg (pos9 y), .agg (pos9 cur), .bool true, .func (.func 67) #[] #[.pointer (some ⟨bo, 0, none⟩), .pointer (some ⟨bb, 0, none⟩)], .pointer (some ⟨g, 0, none⟩), .pointer (some ⟨g, 0, none⟩), .pointer (some ⟨g, 1, none⟩), .map (some m), .agg (pos9 cur), stepV y (c.depth : Int), .agg (pos9 y), .agg (pos9 cur), u, u25, u26, u27, u28, u29, u30, u31], defers := [] } ∧ OutAt w' bo v2 (ms ++ hs ++ [(h : Int)]) ∧ PosBox w' w.heap.size cur ∧ Below bo wq w') ?rest ?reg
      case reg =>
        unfold pos9 stepV
        unfold pos9 at hlq hfq
        unfold stepV at hlq hfq
        gi_region_with (gi_at_call 67; refine HE.out.mono ?_; rintro e w3 ⟨⟨u, rfl⟩, ⟨v3, ho3⟩, hpb, hb3⟩; have HO3 := Hid.intro ho3; have HP3 := Hid.intro (hpb _ _ HPq.out); have HB3 := Hid.intro hb3; clear ho3 hpb hb3)
        all_goals exact ⟨_, _, rfl, HO3.out, HP3.out, HB3.out.os, HB3.out.tape, HB3.out.output, HB3.out.size, HB3.out.block⟩
      case rest =>
        rintro a' w3 ⟨u, v2, rfl, ho3, hp3, hb3⟩
        have HO3 := Hid.intro ho3
        have HP3 := Hid.intro hp3
        have HB3 : Hid (Below bo w w3) := Hid.intro (HBq.out.trans hb3)
        have hM3 : MapAt w3 m es := HM.out.kept (HB3.out.block m hlow.2.1)
        have hcg3 : w3.cell? ⟨g, 1, none⟩ = some (.map (some m)) := by rw [World.cell?, HB3.out.block g hlow.1, HST.out]; rfl
        have hl3 := look_there (w := w3.drew) (m := m) hM3 HKc.out false
        rw [hy] at hl3
        simp only [cond_false] at hl3
        have hf3 := field107_before y (c.depth : Int) w3.drew
        have p0 := HP3.out.cell
        have p1 := HP3.out.frozen
        have r0 := p0 0 (by omega)
        have f0 := p1 0
        have r1 := p0 1 (by omega)
        have f1 := p1 1
        have r2 := p0 2 (by omega)
        have f2 := p1 2
        have r3 := p0 3 (by omega)
        have f3 := p1 3
        have r4 := p0 4 (by omega)
        have f4 := p1 4
        have r5 := p0 5 (by omega)
        have f5 := p1 5
        have r6 := p0 6 (by omega)
        have f6 := p1 6
        have r7 := p0 7 (by omega)
        have f7 := p1 7
        have r8 := p0 8 (by omega)
        have f8 := p1 8
        clear p0 p1 ho3 hp3 hb3 hM3 q0' q1' q2' q3' q4' q5' q6' q7' q8' hlq hfq hcgq
        gi_wp2
        refine wpIn_region_lexS (ro := none) [7] [[0], [0], [0], [0], [0], [0], [0], [0, 1]] (fun s => match s with | 0 => w3.drew | _ => ((((((((w3.drew.setCell ⟨w.heap.size, 0, none⟩ (.int .i8 (y 0))).setCell ⟨w.heap.size, 1, none⟩ (.int .i8 (y 1))).setCell ⟨w.heap.size, 2, none⟩ (.int .i8 (y 2))).setCell ⟨w.heap.size, 3, none⟩ (.int .i8 (y 3))).setCell ⟨w.heap.size, 4, none⟩ (.int .i8 (y 4))).setCell ⟨w.heap.size, 5, none⟩ (.int .i8 (y 5))).setCell ⟨w.heap.size, 6, none⟩ (.int .i8 (y 6))).setCell ⟨w.heap.size, 7, none⟩ (.int .i8 (y 7))).setCell ⟨w.heap.size, 8, none⟩ (.int .i8 (y 8))) follows 32 rfl (by kernel_rfl) rfl ?_
        refine LexS.read (.pointer (some ⟨g, 0, none⟩)) rfl ?_ ?_
        · intro s hs
          simp only [List.mem_cons, List.not_mem_nil, or_false] at hs
          subst hs
          simp [execOp, go_sem]
        simp only [Go.Act.put, List.setIfInBounds_toArray, List.set_cons_succ, List.set_cons_zero, Nat.zero_add, Nat.reduceAdd]
        refine LexS.read (.pointer (some ⟨g, 0, none⟩)) rfl ?_ ?_
        · intro s hs
          simp only [List.mem_cons, List.not_mem_nil, or_false] at hs
          subst hs
          simp [execOp, go_sem]
        simp only [Go.Act.put, List.setIfInBounds_toArray, List.set_cons_succ, List.set_cons_zero, Nat.zero_add, Nat.reduceAdd]
        refine LexS.read (.pointer (some ⟨g, 1, none⟩)) rfl ?_ ?_
        · intro s hs
          simp only [List.mem_cons, List.not_mem_nil, or_false] at hs
          subst hs
          simp [execOp, go_sem]
        simp only [Go.Act.put, List.setIfInBounds_toArray, List.set_cons_succ, List.set_cons_zero, Nat.zero_add, Nat.reduceAdd]
        refine LexS.read (.map (some m)) rfl ?_ ?_
        · intro s hs
          simp only [List.mem_cons, List.not_mem_nil, or_false] at hs
          subst hs
          simp [execOp, go_sem, hcg3]
        simp only [Go.Act.put, List.setIfInBounds_toArray, List.set_cons_succ, List.set_cons_zero, Nat.zero_add, Nat.reduceAdd]
        refine LexS.read (.agg (pos9 cur)) rfl ?_ ?_
        · intro s hs
          simp only [List.mem_cons, List.not_mem_nil, or_false] at hs
          subst hs
          simp [execOp, go_sem, r0, r1, r2, r3, r4, r5, r6, r7, r8, pos9]
        simp only [Go.Act.put, List.setIfInBounds_toArray, List.set_cons_succ, List.set_cons_zero, Nat.zero_add, Nat.reduceAdd]
        refine LexS.read (stepV y (c.depth : Int)) rfl ?_ ?_
        · intro s hs
          simp only [List.mem_cons, List.not_mem_nil, or_false] at hs
          subst hs
          simp [execOp, go_sem, hl3]
        simp only [Go.Act.put, List.setIfInBounds_toArray, List.set_cons_succ, List.set_cons_zero, Nat.zero_add, Nat.reduceAdd]
        refine LexS.read (.agg (pos9 y)) rfl ?_ ?_
        · intro s hs
          simp only [List.mem_cons, List.not_mem_nil, or_false] at hs
          subst hs
          simp [execOp, go_sem, hf3]
        simp only [Go.Act.put, List.setIfInBounds_toArray, List.set_cons_succ, List.set_cons_zero, Nat.zero_add, Nat.reduceAdd]
        refine LexS.store 0 rfl ?_ ?_
        · simp [execOp, go_sem, r0, r1, r2, r3, r4, r5, r6, r7, r8, pos9, f0, f1, f2, f3, f4, f5, f6, f7, f8]
        simp only [Go.Act.put, List.setIfInBounds_toArray, List.set_cons_succ, List.set_cons_zero, Nat.zero_add, Nat.reduceAdd]
        refine LexS.done ?_
        simp only [List.length_cons, List.length_nil, Nat.reduceAdd, Nat.zero_add]
        obtain ⟨we, hwe⟩ : ∃ we, we = ((((((((w3.drew.setCell ⟨w.heap.size, 0, none⟩ (.int .i8 (y 0))).setCell ⟨w.heap.size, 1, none⟩ (.int .i8 (y 1))).setCell ⟨w.heap.size, 2, none⟩ (.int .i8 (y 2))).setCell ⟨w.heap.size, 3, none⟩ (.int .i8 (y 3))).setCell ⟨w.heap.size, 4, none⟩ (.int .i8 (y 4))).setCell ⟨w.heap.size, 5, none⟩ (.int .i8 (y 5))).setCell ⟨w.heap.size, 6, none⟩ (.int .i8 (y 6))).setCell ⟨w.heap.size, 7, none⟩ (.int .i8 (y 7))).setCell ⟨w.heap.size, 8, none⟩ (.int .i8 (y 8)) := ⟨_, rfl⟩
        rw [← hwe]
        have HPE : Hid (PosBox we w.heap.size y) := by rw [hwe]; exact pos_set (W := w3.drew) (z := cur) (z' := y) HP3.out
        have HKE : Hid (∀ b, b ≠ w.heap.size → we.heap[b]? = w3.heap[b]?) := fun b hb => by
          rw [hwe]
          exact (Below.heap_setCell _ ⟨w.heap.size, 8, none⟩ _ b hb).trans ((Below.heap_setCell _ ⟨w.heap.size, 7, none⟩ _ b hb).trans ((Below.heap_setCell _ ⟨w.heap.size, 6, none⟩ _ b hb).trans ((Below.heap_setCell _ ⟨w.heap.size, 5, none⟩ _ b hb).trans ((Below.heap_setCell _ ⟨w.heap.size, 4, none⟩ _ b hb).trans ((Below.heap_setCell _ ⟨w.heap.size, 3, none⟩ _ b hb).trans ((Below.heap_setCell _ ⟨w.heap.size, 2, none⟩ _ b hb).trans ((Below.heap_setCell _ ⟨w.heap.size, 1, none⟩ _ b hb).trans (Below.heap_setCell _ ⟨w.heap.size, 0, none⟩ _ b hb))))))))
        have HGE : Hid (w3.grownBy we (some w.heap.size)) := by
          rw [hwe]
          exact grown_set (grown_set (grown_set (grown_set (grown_set (grown_set (grown_set (grown_set (grown_set (grown_drew w3 w.heap.size) 0 _) 1 _) 2 _) 3 _) 4 _) 5 _) 6 _) 7 _) 8 _
        clear hwe
        gi_wp2
        have HOE : OutAt we bo v2 (ms ++ (hs ++ [(h : Int)])) := by
          rw [← List.append_assoc]
          refine ⟨(HKE.out bo (by omega)).trans HO3.out.box, World.ownsRow.kept HO3.out.row HGE.out ?_⟩
          cases hv : v2.ownBlock with
          | none => exact .inl rfl
          | some b =>
            refine .inr (fun e => ?_)
            injection e with e
            obtain ⟨cur', hc⟩ := row_cells HO3.out.row hv
            rw [e, show w3.heap[w.heap.size]? = _ from HP3.out] at hc
            injection hc with hc
            injection hc with _ hc
            cases hc
        have hdd := HDD.out
        have hw3s := HB3.out.size
        refine ⟨⟨y, hs ++ [(h : Int)], v2, k2, HPE, HC2, HYP, Hid.intro HOE, by rw [List.length_append, List.length_singleton]; omega, Hid.intro (fun ys' hd => ?_), Hid.intro (HB3.out.grown HGE.out (by omega) (fun b e => by cases e; omega))⟩, ?_⟩
        · obtain ⟨ys, h1, h2, h3⟩ := HY.out (y :: ys') ⟨HMV.out, hd⟩
          refine ⟨ys, h1, by rw [h2]; simp; omega, ?_⟩
          rw [h3]
          simp only [holesUp, HHF.out, List.append_assoc, List.cons_append, List.nil_append]
        · rw [HLQ.out, leftK_eq HPE.out HC2.out]
          omega


set_option maxRecDepth 100000 in
set_option maxHeartbeats 16000000 in
/-- **.. the hole ahead of each move.** -/
theorem back69_calls (w : World) (gb g m bo bb N : Nat) (hN : 2 ≤ N ∧ N ≤ 9) (qs : List (Nat × Nat)) (s : Nat → Int) (hs0 : Pos N s) (es : List Known) (hst : ∃ ve, w.heap[g]? = some (.cells #[.pointer (some ⟨gb, 0, none⟩), .map (some m), ve] 91 (0, 0))) (hm : MapAt w m es) (hkn : ∀ k ∈ es, KnownOK qs N s k)
    (hbd : BoardAt w gb N (nxs qs)) (x : Nat → Int) (hx : Pos N x) (k : Known) (hk : lookK es x = some k) (v : Value) (ms : List Int) (hml : ms.length + k.depth ≤ 1000000) (hO : OutAt w bo v ms) (hbb : Boxed w bb 78 (.pointer (some ⟨gb, 0, none⟩))) (hlow : g < bo ∧ m < bo ∧ bb < bo ∧ gb < bo) (hall : ∀ z d, DistE (Mov qs N) s d z → d ≤ k.depth → ∃ c, lookK es z = some c) :
    CallsIn Fence.wide 0 Tryd.prog 66 #[.pointer (some ⟨g, 0, none⟩), .agg (pos9 x), .func (.func 69) #[] #[.pointer (some ⟨bo, 0, none⟩), .pointer (some ⟨bb, 0, none⟩)]] w fun e w' => (∃ v, e = .returned v) ∧ (∃ v' ys, OutAt w' bo v' (ms ++ holesDn N x ys) ∧ DownTo qs N s x ys ∧ ys.length = k.depth) ∧ Below bo w w' := by
  obtain ⟨ve, hst⟩ := hst
  have HST := Hid.intro hst
  have HM := Hid.intro hm
  have HKN := Hid.intro hkn
  have HBD := Hid.intro hbd
  have HX := Hid.intro hx
  have HO0 := Hid.intro hO
  have HBB := Hid.intro hbb
  have HALL := Hid.intro hall
  have HK0 := Hid.intro hk
  have hbow := hO.box.lt
  have HB1 : Hid (Below w.heap.size w (w.alloc (.cells (pos9 x) 83))) := (Below.refl _ _).alloc (Nat.le_refl _) _
  have HP1 : Hid (PosBox (w.alloc (.cells (pos9 x) 83)) w.heap.size x) := World.alloc_heap_new _ _
  obtain ⟨W1, hW1⟩ : ∃ W1, W1 = w.alloc (.cells (pos9 x) 83) := ⟨_, rfl⟩
  rw [← hW1] at HB1 HP1
  have HW1 := Hid.intro hW1
  clear hst hm hkn hbd hx hk hO hbb hall hW1
  refine callsIn_of_wp Tryd.func66 rfl trivial ?_ rfl
  simp only [Tryd.ntmps66, List.size_toArray, List.length_cons, List.length_nil, Nat.reduceAdd, Nat.reduceSub, Array.replicate_succ, Array.replicate_zero, List.push_toArray, List.append_toArray, List.nil_append, List.cons_append]
  gi_wp2
  rw [← HW1.out]
  gi_loopw [6] (fun _ wr => ∃ (cur : Nat → Int) (hs : List Int) (v : Value) (c : Known), Hid (PosBox wr w.heap.size cur) ∧ Hid (lookK es cur = some c) ∧ Hid (Pos N cur) ∧ Hid (OutAt wr bo v (ms ++ hs)) ∧ hs.length + c.depth = k.depth ∧ Hid (∀ ys', DownTo qs N s cur ys' → ∃ ys, DownTo qs N s x ys ∧ ys.length = hs.length + ys'.length ∧ holesDn N x ys = hs ++ holesDn N cur ys') ∧ Hid (Below bo w wr)) (fun _ wr => leftK es wr w.heap.size)
  case atStart => exact ⟨x, [], v, k, HP1.out, HK0.out, HX.out, Hid.intro (by rw [List.append_nil]; exact HO0.out.below HB1.out), by simp, Hid.intro (fun ys h => ⟨ys, h, by simp, rfl⟩), HB1.out.mono (Nat.le_of_lt hbow)⟩
  case round =>
    obtain ⟨cur, hs, v', c, HPc, HKc, HPos, HOc, hlen, HY, HBr⟩ := hrel
    have hcg : wr.cell? ⟨g, 1, none⟩ = some (.map (some m)) := by rw [World.cell?, HBr.out.block g hlow.1, HST.out]; rfl
    have hMr := HM.out.kept (HBr.out.block m hlow.2.1)
    have hlk := look_there (w := wr.drew) (m := m) hMr HKc.out false
    have hck : c ∈ es ∧ c.at_ = cur := (lookK_mem hN.2 hs0 HKN.out HPos.out).2 c HKc.out
    have hko := HKN.out c hck.1
    obtain ⟨hkd, hkb⟩ := hko
    rw [hck.2] at hkd hkb
    obtain ⟨y, hy⟩ : ∃ y, c.before = y := ⟨_, rfl⟩
    rw [hy] at hlk hkb
    simp only [cond_false] at hlk
    have hfb := field107_before y (c.depth : Int) wr.drew
    have hneq : (Op.equalIn 10000 83 (.agg (pos9 y)) (.agg (pos9 cur))).run Tryd.prog wr.drew = .ok (same9 y cur) wr.drew := equal_run (avk_fits y) (avk_fits cur) (avk_VR y) (avk_VR cur) 9998 wr.drew
    have HLK := Hid.intro hlk
    have HFB := Hid.intro hfb
    have hc0 := HPc.out.cell
    have c0 := hc0 0 (by omega)
    have c1 := hc0 1 (by omega)
    have c2 := hc0 2 (by omega)
    have c3 := hc0 3 (by omega)
    have c4 := hc0 4 (by omega)
    have c5 := hc0 5 (by omega)
    have c6 := hc0 6 (by omega)
    have c7 := hc0 7 (by omega)
    have c8 := hc0 8 (by omega)
    clear hc0
    gi_wp2
    refine wpIn_region_lexS (ro := none) [] [[0], [0], [0], [0], [0], [0], [0], [0], [0]] (fun _ => wr.drew) follows 32 rfl (by kernel_rfl) rfl ?_
    refine LexS.read (.pointer (some ⟨g, 0, none⟩)) rfl ?_ ?_
    · intro s hs
      simp only [List.mem_cons, List.not_mem_nil, or_false] at hs
      subst hs
      simp [execOp, go_sem]
    simp only [Go.Act.put, List.setIfInBounds_toArray, List.set_cons_succ, List.set_cons_zero, Nat.zero_add, Nat.reduceAdd]
    refine LexS.read (.pointer (some ⟨g, 0, none⟩)) rfl ?_ ?_
    · intro s hs
      simp only [List.mem_cons, List.not_mem_nil, or_false] at hs
      subst hs
      simp [execOp, go_sem]
    simp only [Go.Act.put, List.setIfInBounds_toArray, List.set_cons_succ, List.set_cons_zero, Nat.zero_add, Nat.reduceAdd]
    refine LexS.read (.pointer (some ⟨g, 1, none⟩)) rfl ?_ ?_
    · intro s hs
      simp only [List.mem_cons, List.not_mem_nil, or_false] at hs
      subst hs
      simp [execOp, go_sem]
    simp only [Go.Act.put, List.setIfInBounds_toArray, List.set_cons_succ, List.set_cons_zero, Nat.zero_add, Nat.reduceAdd]
    refine LexS.read (.map (some m)) rfl ?_ ?_
    · intro s hs
      simp only [List.mem_cons, List.not_mem_nil, or_false] at hs
      subst hs
      simp [execOp, go_sem, hcg]
    simp only [Go.Act.put, List.setIfInBounds_toArray, List.set_cons_succ, List.set_cons_zero, Nat.zero_add, Nat.reduceAdd]
    refine LexS.read (.agg (pos9 cur)) rfl ?_ ?_
    · intro s hs
      simp only [List.mem_cons, List.not_mem_nil, or_false] at hs
      subst hs
      simp [execOp, go_sem, c0, c1, c2, c3, c4, c5, c6, c7, c8, pos9]
    simp only [Go.Act.put, List.setIfInBounds_toArray, List.set_cons_succ, List.set_cons_zero, Nat.zero_add, Nat.reduceAdd]
    refine LexS.read (stepV y (c.depth : Int)) rfl ?_ ?_
    · intro s hs
      simp only [List.mem_cons, List.not_mem_nil, or_false] at hs
      subst hs
      simp [execOp, go_sem, hlk]
    simp only [Go.Act.put, List.setIfInBounds_toArray, List.set_cons_succ, List.set_cons_zero, Nat.zero_add, Nat.reduceAdd]
    refine LexS.read (.agg (pos9 y)) rfl ?_ ?_
    · intro s hs
      simp only [List.mem_cons, List.not_mem_nil, or_false] at hs
      subst hs
      simp [execOp, go_sem, hfb]
    simp only [Go.Act.put, List.setIfInBounds_toArray, List.set_cons_succ, List.set_cons_zero, Nat.zero_add, Nat.reduceAdd]
    refine LexS.read (.agg (pos9 cur)) rfl ?_ ?_
    · intro s hs
      simp only [List.mem_cons, List.not_mem_nil, or_false] at hs
      subst hs
      simp [execOp, go_sem, c0, c1, c2, c3, c4, c5, c6, c7, c8, pos9]
    simp only [Go.Act.put, List.setIfInBounds_toArray, List.set_cons_succ, List.set_cons_zero, Nat.zero_add, Nat.reduceAdd]
    refine LexS.read (.bool (!same9 y cur)) rfl ?_ ?_
    · intro s hs
      simp only [List.mem_cons, List.not_mem_nil, or_false] at hs
      subst hs
      simp [execOp, go_sem, hneq]
    simp only [Go.Act.put, List.setIfInBounds_toArray, List.set_cons_succ, List.set_cons_zero, Nat.zero_add, Nat.reduceAdd]
    refine LexS.done ?_
    obtain ⟨wq, hwq⟩ : ∃ wq, wq = wr.drew := ⟨_, rfl⟩
    have HPq : Hid (PosBox wq w.heap.size cur) := by rw [hwq]; exact HPc.out
    have HOq : Hid (OutAt wq bo v' (ms ++ hs)) := by rw [hwq]; exact HOc.out.drew
    have HBq : Hid (Below bo w wq) := by rw [hwq]; exact ⟨HBr.out.os, HBr.out.tape, HBr.out.output, HBr.out.size, HBr.out.block⟩
    have HLQ : Hid (leftK es wr w.heap.size = c.depth) := leftK_eq HPc.out HKc.out
    cases hsm : same9 y cur with
    | true =>
      simp only [Bool.not_true, ← hwq]
      have HSM := Hid.intro hsm
      have hkd' := hkd
      clear hwq hsm HPc HOc HBr hlk hfb hneq c0 c1 c2 c3 c4 c5 c6 c7 c8 hcg
      have hcs : cur = s ∧ c.depth = 0 := by
        rcases hkb with ⟨h0, _⟩ | ⟨d, h1, h2, h3⟩
        · rw [h0] at hkd'
          exact ⟨hkd'.of_zero, h0⟩
        · exfalso
          have hyp := h2.1.pos hs0
          have := (same9_eq hN.2 hyp HPos.out).1 HSM.out
          subst this
          have := hkd'.unique h2
          omega
      have HCS := Hid.intro hcs
      clear hcs hkd hkd' hkb
      gi_wp2
      all_goals (first | go_returns | go_ret | go_end0)
      obtain ⟨ys, h1, h2, h3⟩ := HY.out [] HCS.out.1
      have h0 := HCS.out.2
      refine ⟨⟨_, rfl⟩, ⟨v', ys, ?_, h1, by rw [h2]; simp; omega⟩, HBq.out⟩
      rw [h3]
      simp only [holesDn, List.append_nil]
      exact HOq.out
    | false =>
      simp only [Bool.not_false, ← hwq]
      have hdep : ∃ d, c.depth = d + 1 ∧ DistE (Mov qs N) s d y ∧ Mov qs N y cur := by
        rcases hkb with ⟨h0, h1⟩ | h
        · subst h1
          have : same9 y y = true := same9_iff.2 fun _ _ => rfl
          rw [this] at hsm
          cases hsm
        · exact h
      obtain ⟨d, hcd, hyd, hmv⟩ := hdep
      obtain ⟨k2, hc2⟩ := HALL.out y d hyd (by omega)
      have hyP := hmv.1
      have hc2k := (lookK_mem hN.2 hs0 HKN.out hyP).2 k2 hc2
      have hc2d : k2.depth = d := by
        have := (HKN.out k2 hc2k.1).1
        rw [hc2k.2] at this
        exact this.unique hyd
      have HC2 := Hid.intro hc2
      have HYP := Hid.intro hyP
      have HMV := Hid.intro hmv
      obtain ⟨h, hhz⟩ := (show Pos N y from hyP).ex_hole (by omega) (by omega)
      have HHF : Hid (holeF N y = h) := holeF_eq hhz
      have HE := Hid.intro (each69_calls wq.drew bo bb gb N (nxs qs) hN y cur h hhz v' (ms ++ hs) (by rw [List.length_append]; omega) HOq.out.drew (show Boxed wq.drew bb 78 _ from (HBq.out.block bb hlow.2.2.1).trans HBB.out) (HBD.out.from (base := bo) hlow.2.2.2 ⟨HBq.out.os, HBq.out.tape, HBq.out.output, HBq.out.size, HBq.out.block⟩))
      have HDD : Hid (k2.depth + 1 = c.depth) := Hid.intro (by omega)
      unfold pos9 at HE
      have hMq : MapAt wq m es := HM.out.kept (HBq.out.block m hlow.2.1)
      have hcgq : wq.cell? ⟨g, 1, none⟩ = some (.map (some m)) := by rw [World.cell?, HBq.out.block g hlow.1, HST.out]; rfl
      have hlq := look_there (w := wq.drew) (m := m) hMq HKc.out false
      rw [hy] at hlq
      simp only [cond_false] at hlq
      have hfq := field107_before y (c.depth : Int) wq.drew
      have q0 := HPq.out.cell
      have q0' := q0 0 (by omega)
      have q1' := q0 1 (by omega)
      have q2' := q0 2 (by omega)
      have q3' := q0 3 (by omega)
      have q4' := q0 4 (by omega)
      have q5' := q0 5 (by omega)
      have q6' := q0 6 (by omega)
      have q7' := q0 7 (by omega)
      have q8' := q0 8 (by omega)
      have HMQ := Hid.intro hMq
      have hks1 : c.depth ≤ k.depth := by omega
      clear q0 hwq hsm hlk hfb hneq c0 c1 c2 c3 c4 c5 c6 c7 c8 hcg HPc HOc HBr hMr hcd
      gi_wp2
      refine region_rel (fun a' w' => ∃ u v2, a' = { tmps := #[.pointer (some ⟨g, 0, none⟩), .agg (pos9 x), .func (.func 69) #[] #[.pointer (some ⟨bo, 0, none⟩), .pointer (some ⟨bb, 0, none⟩)], undef, .pointer (some ⟨w.heap.size, 0, none⟩), undef, .pointer (some ⟨g, 0, none⟩), .pointer (some ⟨g, 0, none⟩), .pointer (some ⟨g, 1, none⟩), .map (some m), .agg (pos9 cur), stepV y (c.depth : Int), .agg (pos9 y), .agg (pos9 cur), .bool true, .func (.func 69) #[] #[.pointer (some ⟨bo, 0, none⟩), .pointer (some ⟨bb, 0, none⟩)], .pointer (some ⟨g, 0, none⟩), .pointer (some ⟨g, 0, none⟩), .pointer (some ⟨g, 1, none⟩), .map (some m), .agg (pos9 cur), stepV y (c.depth : Int), .agg (pos9 y), .agg (pos9 cur), u, u25, u26, u27, u28, u29, u30, u31], defers := [] } ∧ OutAt w' bo v2 (ms ++ hs ++ [(h : Int)]) ∧ PosBox w' w.heap.size cur ∧ Below bo wq w') ?rest ?reg
      case reg =>
        unfold pos9 stepV
        unfold pos9 at hlq hfq
        unfold stepV at hlq hfq
        gi_region_with (gi_at_call 69; refine HE.out.mono ?_; rintro e w3 ⟨⟨u, rfl⟩, ⟨v3, ho3⟩, hpb, hb3⟩; have HO3 := Hid.intro ho3; have HP3 := Hid.intro (hpb _ _ HPq.out); have HB3 := Hid.intro hb3; clear ho3 hpb hb3)
        all_goals exact ⟨_, _, rfl, HO3.out, HP3.out, HB3.out.os, HB3.out.tape, HB3.out.output, HB3.out.size, HB3.out.block⟩
      case rest =>
        rintro a' w3 ⟨u, v2, rfl, ho3, hp3, hb3⟩
        have HO3 := Hid.intro ho3
        have HP3 := Hid.intro hp3
        have HB3 : Hid (Below bo w w3) := Hid.intro (HBq.out.trans hb3)
        have hM3 : MapAt w3 m es := HM.out.kept (HB3.out.block m hlow.2.1)
        have hcg3 : w3.cell? ⟨g, 1, none⟩ = some (.map (some m)) := by rw [World.cell?, HB3.out.block g hlow.1, HST.out]; rfl
        have hl3 := look_there (w := w3.drew) (m := m) hM3 HKc.out false
        rw [hy] at hl3
        simp only [cond_false] at hl3
        have hf3 := field107_before y (c.depth : Int) w3.drew
        have p0 := HP3.out.cell
        have p1 := HP3.out.frozen
        have r0 := p0 0 (by omega)
        have f0 := p1 0
        have r1 := p0 1 (by omega)
        have f1 := p1 1
        have r2 := p0 2 (by omega)
        have f2 := p1 2
        have r3 := p0 3 (by omega)
        have f3 := p1 3
        have r4 := p0 4 (by omega)
        have f4 := p1 4
        have r5 := p0 5 (by omega)
        have f5 := p1 5
        have r6 := p0 6 (by omega)
        have f6 := p1 6
        have r7 := p0 7 (by omega)
        have f7 := p1 7
        have r8 := p0 8 (by omega)
        have f8 := p1 8
        clear p0 p1 ho3 hp3 hb3 hM3 q0' q1' q2' q3' q4' q5' q6' q7' q8' hlq hfq hcgq
        gi_wp2
        refine wpIn_region_lexS (ro := none) [7] [[0], [0], [0], [0], [0], [0], [0], [0, 1]] (fun s => match s with | 0 => w3.drew | _ => ((((((((w3.drew.setCell ⟨w.heap.size, 0, none⟩ (.int .i8 (y 0))).setCell ⟨w.heap.size, 1, none⟩ (.int .i8 (y 1))).setCell ⟨w.heap.size, 2, none⟩ (.int .i8 (y 2))).setCell ⟨w.heap.size, 3, none⟩ (.int .i8 (y 3))).setCell ⟨w.heap.size, 4, none⟩ (.int .i8 (y 4))).setCell ⟨w.heap.size, 5, none⟩ (.int .i8 (y 5))).setCell ⟨w.heap.size, 6, none⟩ (.int .i8 (y 6))).setCell ⟨w.heap.size, 7, none⟩ (.int .i8 (y 7))).setCell ⟨w.heap.size, 8, none⟩ (.int .i8 (y 8))) follows 32 rfl (by kernel_rfl) rfl ?_
        refine LexS.read (.pointer (some ⟨g, 0, none⟩)) rfl ?_ ?_
        · intro s hs
          simp only [List.mem_cons, List.not_mem_nil, or_false] at hs
          subst hs
          simp [execOp, go_sem]
        simp only [Go.Act.put, List.setIfInBounds_toArray, List.set_cons_succ, List.set_cons_zero, Nat.zero_add, Nat.reduceAdd]
        refine LexS.read (.pointer (some ⟨g, 0, none⟩)) rfl ?_ ?_
        · intro s hs
          simp only [List.mem_cons, List.not_mem_nil, or_false] at hs
          subst hs
          simp [execOp, go_sem]
        simp only [Go.Act.put, List.setIfInBounds_toArray, List.set_cons_succ, List.set_cons_zero, Nat.zero_add, Nat.reduceAdd]
        refine LexS.read (.pointer (some ⟨g, 1, none⟩)) rfl ?_ ?_
        · intro s hs
          simp only [List.mem_cons, List.not_mem_nil, or_false] at hs
          subst hs
          simp [execOp, go_sem]
        simp only [Go.Act.put, List.setIfInBounds_toArray, List.set_cons_succ, List.set_cons_zero, Nat.zero_add, Nat.reduceAdd]
        refine LexS.read (.map (some m)) rfl ?_ ?_
        · intro s hs
          simp only [List.mem_cons, List.not_mem_nil, or_false] at hs
          subst hs
          simp [execOp, go_sem, hcg3]
        simp only [Go.Act.put, List.setIfInBounds_toArray, List.set_cons_succ, List.set_cons_zero, Nat.zero_add, Nat.reduceAdd]
        refine LexS.read (.agg (pos9 cur)) rfl ?_ ?_
        · intro s hs
          simp only [List.mem_cons, List.not_mem_nil, or_false] at hs
          subst hs
          simp [execOp, go_sem, r0, r1, r2, r3, r4, r5, r6, r7, r8, pos9]
        simp only [Go.Act.put, List.setIfInBounds_toArray, List.set_cons_succ, List.set_cons_zero, Nat.zero_add, Nat.reduceAdd]
        refine LexS.read (stepV y (c.depth : Int)) rfl ?_ ?_
        · intro s hs
          simp only [List.mem_cons, List.not_mem_nil, or_false] at hs
          subst hs
          simp [execOp, go_sem, hl3]
        simp only [Go.Act.put, List.setIfInBounds_toArray, List.set_cons_succ, List.set_cons_zero, Nat.zero_add, Nat.reduceAdd]
        refine LexS.read (.agg (pos9 y)) rfl ?_ ?_
        · intro s hs
          simp only [List.mem_cons, List.not_mem_nil, or_false] at hs
          subst hs
          simp [execOp, go_sem, hf3]
        simp only [Go.Act.put, List.setIfInBounds_toArray, List.set_cons_succ, List.set_cons_zero, Nat.zero_add, Nat.reduceAdd]
        refine LexS.store 0 rfl ?_ ?_
        · simp [execOp, go_sem, r0, r1, r2, r3, r4, r5, r6, r7, r8, pos9, f0, f1, f2, f3, f4, f5, f6, f7, f8]
        simp only [Go.Act.put, List.setIfInBounds_toArray, List.set_cons_succ, List.set_cons_zero, Nat.zero_add, Nat.reduceAdd]
        refine LexS.done ?_
        simp only [List.length_cons, List.length_nil, Nat.reduceAdd, Nat.zero_add]
        obtain ⟨we, hwe⟩ : ∃ we, we = ((((((((w3.drew.setCell ⟨w.heap.size, 0, none⟩ (.int .i8 (y 0))).setCell ⟨w.heap.size, 1, none⟩ (.int .i8 (y 1))).setCell ⟨w.heap.size, 2, none⟩ (.int .i8 (y 2))).setCell ⟨w.heap.size, 3, none⟩ (.int .i8 (y 3))).setCell ⟨w.heap.size, 4, none⟩ (.int .i8 (y 4))).setCell ⟨w.heap.size, 5, none⟩ (.int .i8 (y 5))).setCell ⟨w.heap.size, 6, none⟩ (.int .i8 (y 6))).setCell ⟨w.heap.size, 7, none⟩ (.int .i8 (y 7))).setCell ⟨w.heap.size, 8, none⟩ (.int .i8 (y 8)) := ⟨_, rfl⟩
        rw [← hwe]
        have HPE : Hid (PosBox we w.heap.size y) := by rw [hwe]; exact pos_set (W := w3.drew) (z := cur) (z' := y) HP3.out
        have HKE : Hid (∀ b, b ≠ w.heap.size → we.heap[b]? = w3.heap[b]?) := fun b hb => by
          rw [hwe]
          exact (Below.heap_setCell _ ⟨w.heap.size, 8, none⟩ _ b hb).trans ((Below.heap_setCell _ ⟨w.heap.size, 7, none⟩ _ b hb).trans ((Below.heap_setCell _ ⟨w.heap.size, 6, none⟩ _ b hb).trans ((Below.heap_setCell _ ⟨w.heap.size, 5, none⟩ _ b hb).trans ((Below.heap_setCell _ ⟨w.heap.size, 4, none⟩ _ b hb).trans ((Below.heap_setCell _ ⟨w.heap.size, 3, none⟩ _ b hb).trans ((Below.heap_setCell _ ⟨w.heap.size, 2, none⟩ _ b hb).trans ((Below.heap_setCell _ ⟨w.heap.size, 1, none⟩ _ b hb).trans (Below.heap_setCell _ ⟨w.heap.size, 0, none⟩ _ b hb))))))))
        have HGE : Hid (w3.grownBy we (some w.heap.size)) := by
          rw [hwe]
          exact grown_set (grown_set (grown_set (grown_set (grown_set (grown_set (grown_set (grown_set (grown_set (grown_drew w3 w.heap.size) 0 _) 1 _) 2 _) 3 _) 4 _) 5 _) 6 _) 7 _) 8 _
        clear hwe
        gi_wp2
        have HOE : OutAt we bo v2 (ms ++ (hs ++ [(h : Int)])) := by
          rw [← List.append_assoc]
          refine ⟨(HKE.out bo (by omega)).trans HO3.out.box, World.ownsRow.kept HO3.out.row HGE.out ?_⟩
          cases hv : v2.ownBlock with
          | none => exact .inl rfl
          | some b =>
            refine .inr (fun e => ?_)
            injection e with e
            obtain ⟨cur', hc⟩ := row_cells HO3.out.row hv
            rw [e, show w3.heap[w.heap.size]? = _ from HP3.out] at hc
            injection hc with hc
            injection hc with _ hc
            cases hc
        have hdd := HDD.out
        have hw3s := HB3.out.size
        refine ⟨⟨y, hs ++ [(h : Int)], v2, k2, HPE, HC2, HYP, Hid.intro HOE, by rw [List.length_append, List.length_singleton]; omega, Hid.intro (fun ys' hd => ?_), Hid.intro (HB3.out.grown HGE.out (by omega) (fun b e => by cases e; omega))⟩, ?_⟩
        · obtain ⟨ys, h1, h2, h3⟩ := HY.out (y :: ys') ⟨HMV.out, hd⟩
          refine ⟨ys, h1, by rw [h2]; simp; omega, ?_⟩
          rw [h3]
          simp only [holesDn, HHF.out, List.append_assoc, List.cons_append, List.nil_append]
        · rw [HLQ.out, leftK_eq HPE.out HC2.out]
          omega

end Go.Eng

namespace Go.Eng
open Go.RowKit Go.Proofs Go.Proofs.YtjcmalmcijpnnaaDoor

/-- Moves from one position to another. -/
def PathM (qs : List (Nat × Nat)) (N : Nat) : (Nat → Int) → List Int → (Nat → Int) → Prop
  | p, [], q => p = q
  | p, t :: r, q => ∃ z, Mov qs N p z ∧ (holeF N z : Int) = t ∧ PathM qs N z r q
theorem PathM.append {qs : List (Nat × Nat)} {N : Nat} : ∀ {p x q : Nat → Int} {a b : List Int}, PathM qs N p a x → PathM qs N x b q → PathM qs N p (a ++ b) q
  | p, x, q, [], b, h, h' => by
    have e : p = x := h
    subst e
    exact h'
  | p, x, q, t :: r, b, ⟨z, h1, h2, h3⟩, h' => ⟨z, h1, h2, PathM.append h3 h'⟩
theorem DownTo.up {qs : List (Nat × Nat)} {N : Nat} {s : Nat → Int} : ∀ {x : Nat → Int} {ys : List (Nat → Int)}, DownTo qs N s x ys → PathM qs N s (holesUp N x ys).reverse x
  | x, [], h => Eq.symm h
  | x, y :: r, ⟨h1, h2⟩ => by
    simp only [holesUp, List.reverse_cons]
    exact (DownTo.up h2).append ⟨x, h1, rfl, rfl⟩
theorem DownTo.dn {qs : List (Nat × Nat)} {N : Nat} {s : Nat → Int} : ∀ {x : Nat → Int} {ys : List (Nat → Int)}, DownTo qs N s x ys → PathM qs N x (holesDn N x ys) s
  | x, [], h => h
  | x, y :: r, ⟨h1, h2⟩ => ⟨y, h1.symm, rfl, DownTo.dn h2⟩
theorem holesUp_len {N : Nat} : ∀ {x : Nat → Int} {ys : List (Nat → Int)}, (holesUp N x ys).length = ys.length
  | _, [] => rfl
  | _, y :: r => by simp [holesUp, holesUp_len (x := y) (ys := r)]
theorem holesDn_len {N : Nat} : ∀ {x : Nat → Int} {ys : List (Nat → Int)}, (holesDn N x ys).length = ys.length
  | _, [] => rfl
  | _, y :: r => by simp [holesDn, holesDn_len (x := y) (ys := r)]

/-- Nothing is known to both. -/
def Apart (es es' : List Known) : Prop := ∀ z, z ∈ es.map (·.at_) → z ∉ es'.map (·.at_)
theorem Apart.symm {es es' : List Known} (h : Apart es es') : Apart es' es := fun z h1 h2 => h z h2 h1

section
variable {qs : List (Nat × Nat)} {N : Nat} {p q : Nat → Int} {D D' : Nat} {es es' ns : List Known} {L L' : List (Nat → Int)}

theorem WaveOK.known (h : WaveOK qs N p D es L) {z : Nat → Int} {d : Nat} (hd : DistE (Mov qs N) p d z) (hle : d ≤ D) : z ∈ es.map (·.at_) := (h.wave.km z).2 ⟨d, hle, hd⟩
/-- No walk so short. -/
theorem apart_far (h : WaveOK qs N p D es L) (h' : WaveOK qs N q D' es' L') (ha : Apart es es') {n : Nat} (hw : Wlk (Mov qs N) p n q) : D + D' < n := by
  apply Classical.byContradiction
  intro hn
  obtain ⟨u, h1, h2⟩ := hw.split (min D n) (Nat.min_le_right _ _)
  obtain ⟨d1, l1, e1⟩ := h1.dist
  obtain ⟨d2, l2, e2⟩ := (h2.symm (fun a b => Mov.symm)).dist
  exact ha u (h.known e1 (by omega)) (h'.known e2 (by omega))
/-- Where they meet. -/
theorem meet_at (h : WaveOK qs N p D es L) (h' : WaveOK qs N q D' es' L') (ha : Apart es es') {x : Nat → Int} (hx : DistE (Mov qs N) p (D + 1) x) {k : Known} (hk : k ∈ es') (hkx : k.at_ = x) : k.depth = D' ∧ DistE (Mov qs N) p (D + 1 + D') q := by
  have hkd := (h'.kn k hk).1
  rw [hkx] at hkd
  have hle : k.depth ≤ D' := by
    obtain ⟨d, h1, h2⟩ := (h'.wave.km x).1 (List.mem_map.2 ⟨k, hk, hkx⟩)
    have := h2.unique hkd
    omega
  have hw := hx.1.add (hkd.1.symm (fun a b => Mov.symm))
  have hf := apart_far h h' ha hw
  have e : k.depth = D' := by omega
  refine ⟨e, ?_, fun n hn hw' => ?_⟩
  · rw [← e]; exact hw
  · have := apart_far h h' ha hw'
    omega
/-- Nothing further is reached: they never meet. -/
theorem apart_never (h : WaveOK qs N p (D + 1) es []) (h' : WaveOK qs N q D' es' L') (ha : Apart es es') (d : Nat) : ¬ DistE (Mov qs N) p d q := fun hd => by
  have hle := Wave.ended h.wave d q hd
  have h0 : q ∈ es'.map (·.at_) := h'.known DistE.zero (Nat.zero_le _)
  exact ha q (h.known hd (by omega)) h0
theorem apart_grow {ns : List Known} (ha : Apart es es') (hn : ∀ z ∈ ns.map (·.at_), z ∉ es'.map (·.at_)) : Apart (es ++ ns) es' := fun z hz => by
  rw [List.map_append, List.mem_append] at hz
  exact hz.elim (ha z) (hn z)
theorem no_walk_symm (d : Nat) (h : ∀ d, ¬ DistE (Mov qs N) q d p) : ¬ DistE (Mov qs N) p d q := fun hd => h d (hd.symm fun a b => Mov.symm)
end

/-- A wave lies where it lay when another one has grown. -/
theorem WaveAt.kept {base gb g m g1 m1 : Nat} {ve v1 : Value} {es es1 : List Known} {L L1 : List (Nat → Int)} {b1 gb1 : Nat} {w w' : World} (h : WaveAt base gb g m ve es L w) (h1 : WaveAt b1 gb1 g1 m1 v1 es1 L1 w) (hg : g1 ≠ g) (hm : m1 ≠ m) (hk : KeptBut g1 m1 w w') : WaveAt base gb g m ve es L w' := by
  have hgl := (Array.getElem?_eq_some_iff.1 h.st).1
  obtain ⟨en, cl, hm1, _⟩ := h1.map
  obtain ⟨en', cl', hm', _⟩ := h.map
  have n1 : g ≠ m1 := fun e => by subst e; rw [h.st] at hm1; cases hm1
  have n2 : m ≠ g1 := fun e => by subst e; rw [h1.st] at hm'; cases hm'
  refine ⟨h.lo, (hk.block g hgl (fun e => hg e.symm) n1).trans h.st, h.map.kept (hk.block m h.map.lt n2 (fun e => hm e.symm)), ⟨h.row.1, ?_⟩⟩
  rcases h.row.2 with hn | ⟨r, cap, cur, e1, e2, e3, e4⟩
  · exact .inl hn
  · refine .inr ⟨r, cap, cur, e1, e2, ?_, e4⟩
    refine (hk.block r (Array.getElem?_eq_some_iff.1 e3).1 (fun e => ?_) (fun e => ?_)).trans e3
    · subst e
      rw [h1.st] at e3
      injection e3 with e3
      injection e3 with _ e3
      cases e3
    · subst e
      rw [hm1] at e3
      cases e3
theorem PosBox.keptBut {b g1 m1 : Nat} {z : Nat → Int} {v1 : Value} {es1 : List Known} {L1 : List (Nat → Int)} {b1 gb1 : Nat} {w w' : World} (h : PosBox w b z) (h1 : WaveAt b1 gb1 g1 m1 v1 es1 L1 w) (hk : KeptBut g1 m1 w w') : PosBox w' b z := by
  obtain ⟨en, cl, hm1, _⟩ := h1.map
  refine h.kept (hk.block b h.lt (fun e => ?_) (fun e => ?_))
  · subst e
    have e3 := h1.st
    rw [show w.heap[b]? = _ from h] at e3
    injection e3 with e3
    injection e3 with _ e3
    cases e3
  · subst e
    rw [show w.heap[b]? = _ from h] at hm1
    cases hm1
/-- A wave lies where it lay behind a step that turns a box of positions and lays new blocks. -/
theorem WaveAt.grown {base gb g m b : Nat} {ve : Value} {es : List Known} {L : List (Nat → Int)} {w w' : World} (h : WaveAt base gb g m ve es L w) (hg : w.grownBy w' (some b)) (hb : b ≠ g ∧ b ≠ m) (hr : ve.ownBlock ≠ some b) : WaveAt base gb g m ve es L w' := by
  have hgl := (Array.getElem?_eq_some_iff.1 h.st).1
  refine ⟨h.lo, (hg.block g hgl (fun e => by cases e; exact hb.1 rfl)).trans h.st, h.map.kept (hg.block m h.map.lt (fun e => by cases e; exact hb.2 rfl)), h.row.kept hg (.inr hr)⟩

/-- How many entries a map has. -/
def mapSize (W : World) (m : Nat) : Nat := match W.heap[m]? with | some (.map en _) => en.size | _ => 0
theorem mapSize_eq {W : World} {m : Nat} {es : List Known} (h : MapAt W m es) : mapSize W m = es.length := by
  obtain ⟨en, cl, h1, h2⟩ := h.size
  unfold mapSize
  rw [h1]
  exact h2
theorem look_any2 {W : World} {m : Nat} {es : List Known} (q : Nat → Int) (h : MapAt W m es) (o : Obj) : ∃ (b : Nat → Int) (d : Nat) (ok : Bool),
    ((Instr.lookup 88 (.map (some m)) (.agg (pos9 q)) true).run Tryd.prog W.drew = .ok (.tuple #[stepV b d, .bool ok]) W.drew ∧ (Instr.lookup 88 (.map (some m)) (.agg (pos9 q)) true).run Tryd.prog (W.alloc o).drew = .ok (.tuple #[stepV b d, .bool ok]) (W.alloc o).drew) ∧
    ((ok = true ∧ ∃ k, lookK es q = some k ∧ d = k.depth) ∨ (ok = false ∧ lookK es q = none)) := by
  have h2 : MapAt (W.alloc o).drew m es := h.kept (Below.heap_alloc _ _ _ h.lt)
  have h1 : MapAt W.drew m es := h
  cases hl : lookK es q with
  | none => exact ⟨_, 0, false, ⟨look_not h1 hl true, look_not h2 hl true⟩, .inr ⟨rfl, rfl⟩⟩
  | some k => exact ⟨_, _, true, ⟨look_there h1 hl true, look_there h2 hl true⟩, .inl ⟨rfl, k, rfl, rfl⟩⟩
end Go.Eng
