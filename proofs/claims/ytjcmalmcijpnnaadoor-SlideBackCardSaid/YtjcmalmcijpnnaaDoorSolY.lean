/-
  Solve and Reaches, and what the reference does with a long row of moves.
  Conditions: none.
-/
import Derived.Test.YtjcmalmcijpnnaaDoorSolD
import Derived.Test.YtjcmalmcijpnnaaDoorSolX

namespace Go.Eng
open Go.RowKit Go.Proofs Go.Proofs.YtjcmalmcijpnnaaDoor

/-- Two positions are checked with the board. -/
theorem openTwo_calls (w : World) (N : Nat) (hN : 2 ≤ N ∧ N ≤ 9) (v : Value) (ps : List (Int × Int)) (hv : PairsAt w v ps) (hl : ps.length ≤ 1000) (hb : IsBoard N ps) (op : Option Addr) (cp : Nat) (zs : List Int) (hp : IntsAt w (.slice op zs.length cp) zs) (hpos : IsPos (N : Int) zs)
    (oq : Option Addr) (cq : Nat) (ys : List Int) (hq : IntsAt w (.slice oq ys.length cq) ys) (hpos2 : IsPos (N : Int) ys) :
    CallsIn Fence.wide 0 Tryd.prog 55 #[.int .i64 (N : Int), v, .slice (some ⟨w.heap.size, 0, none⟩) 2 2] (w.alloc (.cells #[.slice op zs.length cp, .slice oq ys.length cq] 38)) fun e w' => (∃ g, e = .returned (.tuple #[.pointer (some ⟨g, 0, none⟩), .int .i64 0]) ∧ g < w'.heap.size ∧ BoardAt w' g N (nxs (nats ps))) ∧ Below w.heap.size w w' := by
  have HE : AllErr N ps 2 (fun i => if i = 0 then zs else ys) 0 := .inr (.inr ⟨.inr (.inr ⟨by omega, by simpa using hb, rfl⟩), fun i _ => by
    show IsPos _ (if i = 0 then zs else ys)
    split
    · exact hpos
    · exact hpos2, rfl⟩)
  have HB1 : Below w.heap.size w (w.alloc (.cells #[.slice op zs.length cp, .slice oq ys.length cq] 38)) := (Below.refl _ _).alloc (Nat.le_refl _) _
  refine (openAll_calls _ N v ps (hv.below HB1) hl ⟨w.heap.size, 0, none⟩ 2 2 (by omega) (by simp) (fun i => if i = 0 then .slice op zs.length cp else .slice oq ys.length cq) (fun i => if i = 0 then zs else ys) ?_ (fun i _ => ?_)).mono ?_
  · intro i hi
    have : i = 0 ∨ i = 1 := by omega
    rcases this with rfl | rfl
    · exact World.cell?_alloc_new _ _ _ _
    · exact World.cell?_alloc_new _ _ _ _
  · show IntsAt _ (if i = 0 then _ else _) (if i = 0 then zs else ys)
    split
    · exact hp.below HB1
    · exact hq.below HB1
  · rintro e w' ⟨hB, ⟨c, hc, h, rfl⟩ | ⟨h, g, rfl, hg, hA⟩⟩
    · exact absurd (h.unique HE) hc
    · have hA' : ArrAt w' g 10 (boardCell N (nxs (nats ps))) := by simpa using hA
      exact ⟨⟨g, rfl, hA'.lt (by omega), board_of hA'⟩, HB1.trans (hB.mono (by simp))⟩

/-- What 'Solve' answers. -/
def SolvedTo (qs : List (Nat × Nat)) (N : Nat) (p q : Nat → Int) (e : Ending) (w' : World) : Prop :=
  (∃ v ms, e = .returned (.tuple #[v, .bool true, .int .i64 0]) ∧ IntsAt w' v ms ∧ PathM qs N p ms q ∧ DistE (Mov qs N) p ms.length q) ∨
  ((∀ d, ¬ DistE (Mov qs N) p d q) ∧ e = .returned (.tuple #[.slice none 0 0, .bool false, .int .i64 0]))
def ReachTo (qs : List (Nat × Nat)) (N : Nat) (p q : Nat → Int) (e : Ending) : Prop :=
  ((∃ d, DistE (Mov qs N) p d q) ∧ e = .returned (.tuple #[.bool true, .int .i64 0])) ∨
  ((∀ d, ¬ DistE (Mov qs N) p d q) ∧ e = .returned (.tuple #[.bool false, .int .i64 0]))

set_option maxRecDepth 100000 in
set_option maxHeartbeats 8000000 in
/-- **'Solve' of the program.** -/
theorem slideSolve_calls (w : World) (hT : TabsIn w) (N : Nat) (hN : 2 ≤ N ∧ N ≤ 9) (v : Value) (ps : List (Int × Int)) (hv : PairsAt w v ps) (hl : ps.length ≤ 1000) (hb : IsBoard N ps) (vp : Value) (zs : List Int) (hp : IntsAt w vp zs) (hpos : IsPos (N : Int) zs) (vq : Value) (ys : List Int) (hq : IntsAt w vq ys) (hpos2 : IsPos (N : Int) ys) :
    CallsIn Fence.wide 0 Tryd.prog 22 #[.int .i64 (N : Int), v, vp, vq] w fun e w' => SolvedTo (nats ps) N (fun i => zs.getD i 0) (fun i => ys.getD i 0) e w' ∧ Below w.heap.size w w' := by
  obtain ⟨op, cp, rfl⟩ := hp.form
  obtain ⟨oq, cq, rfl⟩ := hq.form
  have hzl : zs.length = N := by have := hpos.2.1; omega
  have hyl : ys.length = N := by have := hpos2.2.1; omega
  have HQ := Hid.intro (nats_mem hb.1)
  have HO := Hid.intro (openTwo_calls w N hN v ps hv hl hb op cp zs hp hpos oq cq ys hq hpos2)
  have HOf : Hid (∀ w', Below w.heap.size w w' → CallsIn Fence.wide 0 Tryd.prog 57 #[.slice op zs.length cp] w' fun e w'' => e = .returned (.agg (pos9 fun i => zs.getD i 0)) ∧ Below w'.heap.size w' w'') := fun w' hw =>
    of_calls w' _ zs (hp.below hw) (by omega) (fun x hx => by have := hpos.2.2.1 x hx; omega)
  have HOg : Hid (∀ w', Below w.heap.size w w' → CallsIn Fence.wide 0 Tryd.prog 57 #[.slice oq ys.length cq] w' fun e w'' => e = .returned (.agg (pos9 fun i => ys.getD i 0)) ∧ Below w'.heap.size w' w'') := fun w' hw =>
    of_calls w' _ ys (hq.below hw) (by omega) (fun x hx => by have := hpos2.2.2.1 x hx; omega)
  have HP := Hid.intro (Pos.of hpos)
  have HP2 := Hid.intro (Pos.of hpos2)
  obtain ⟨z0, hz0⟩ : ∃ z0 : Nat → Int, (fun i => zs.getD i 0) = z0 := ⟨_, rfl⟩
  obtain ⟨y0, hy0⟩ : ∃ y0 : Nat → Int, (fun i => ys.getD i 0) = y0 := ⟨_, rfl⟩
  rw [hz0] at HP HOf ⊢
  rw [hy0] at HP2 HOg ⊢
  have HT := Hid.intro hT
  clear hT hv hl hb hp hpos hq hpos2 hz0 hy0 hzl hyl
  unfold pos9 at HOf HOg
  refine callsIn_of_wp Tryd.func22 rfl trivial ?_ rfl
  simp only [Tryd.ntmps22, List.size_toArray, List.length_cons, List.length_nil, Nat.reduceAdd, Nat.reduceSub, Array.replicate_succ, Array.replicate_zero, List.push_toArray, List.append_toArray, List.nil_append, List.cons_append]
  gi_wp2_with (gi_at_call 55; refine HO.out.mono ?_; rintro e w1 ⟨⟨gb, rfl, hgb, hbd⟩, hB⟩; have HB := Hid.intro hB; have HBD := Hid.intro hbd; clear hB hbd; refine stop ?_)
  unfold Stop
  gi_wp2_with (gi_at_call 57; refine (HOf.out _ HB.out).mono ?_; rintro e w2 ⟨rfl, hB2⟩; have HB2 := Hid.intro (HB.out.trans (hB2.mono HB.out.size)); have HBD2 := Hid.intro (HBD.out.from hgb hB2); have hgb2 := Nat.lt_of_lt_of_le hgb hB2.size; clear hB2; refine stop ?_)
  unfold Stop
  gi_wp2_with (gi_at_call 57; refine (HOg.out _ HB2.out).mono ?_; rintro e w3 ⟨rfl, hB3⟩; have HB3 := Hid.intro (HB2.out.trans (hB3.mono HB2.out.size)); have HSv := Hid.intro (solve_calls w3 (HT.out.below (HB2.out.trans (hB3.mono HB2.out.size))) gb N hN (nats ps) HQ.out (HBD2.out.from hgb2 hB3) z0 y0 HP.out HP2.out); unfold pos9 at HSv; clear hB3; refine stop ?_)
  unfold Stop
  gi_wp2_with (gi_at_call 56; refine HSv.out.mono ?_; rintro e w4 ⟨hsd, hB4⟩; have HB4 := Hid.intro (HB3.out.trans (hB4.mono HB3.out.size)); clear hB4; rcases hsd with ⟨vo, ms, rfl, hi, hpm, hd⟩ | ⟨hno, rfl⟩)
  · refine bodyPost_ret (v := .tuple #[vo, .bool true, .int .i64 0]) (by simp [results, Tryd.results22, go_sem]) rfl ?_
    exact ⟨.inl ⟨vo, ms, rfl, hi, hpm, hd⟩, HB4.out⟩
  · refine bodyPost_ret (v := .tuple #[.slice none 0 0, .bool false, .int .i64 0]) (by simp [results, Tryd.results22, go_sem]) rfl ?_
    exact ⟨.inr ⟨hno, rfl⟩, HB4.out⟩
set_option maxRecDepth 100000 in
set_option maxHeartbeats 8000000 in
/-- **'Reaches' of the program.** -/
theorem reaches_calls (w : World) (hT : TabsIn w) (N : Nat) (hN : 2 ≤ N ∧ N ≤ 9) (v : Value) (ps : List (Int × Int)) (hv : PairsAt w v ps) (hl : ps.length ≤ 1000) (hb : IsBoard N ps) (vp : Value) (zs : List Int) (hp : IntsAt w vp zs) (hpos : IsPos (N : Int) zs) (vq : Value) (ys : List Int) (hq : IntsAt w vq ys) (hpos2 : IsPos (N : Int) ys) :
    CallsIn Fence.wide 0 Tryd.prog 28 #[.int .i64 (N : Int), v, vp, vq] w fun e w' => ReachTo (nats ps) N (fun i => zs.getD i 0) (fun i => ys.getD i 0) e ∧ Below w.heap.size w w' := by
  obtain ⟨op, cp, rfl⟩ := hp.form
  obtain ⟨oq, cq, rfl⟩ := hq.form
  have hzl : zs.length = N := by have := hpos.2.1; omega
  have hyl : ys.length = N := by have := hpos2.2.1; omega
  have HQ := Hid.intro (nats_mem hb.1)
  have HO := Hid.intro (openTwo_calls w N hN v ps hv hl hb op cp zs hp hpos oq cq ys hq hpos2)
  have HOf : Hid (∀ w', Below w.heap.size w w' → CallsIn Fence.wide 0 Tryd.prog 57 #[.slice op zs.length cp] w' fun e w'' => e = .returned (.agg (pos9 fun i => zs.getD i 0)) ∧ Below w'.heap.size w' w'') := fun w' hw =>
    of_calls w' _ zs (hp.below hw) (by omega) (fun x hx => by have := hpos.2.2.1 x hx; omega)
  have HOg : Hid (∀ w', Below w.heap.size w w' → CallsIn Fence.wide 0 Tryd.prog 57 #[.slice oq ys.length cq] w' fun e w'' => e = .returned (.agg (pos9 fun i => ys.getD i 0)) ∧ Below w'.heap.size w' w'') := fun w' hw =>
    of_calls w' _ ys (hq.below hw) (by omega) (fun x hx => by have := hpos2.2.2.1 x hx; omega)
  have HP := Hid.intro (Pos.of hpos)
  have HP2 := Hid.intro (Pos.of hpos2)
  obtain ⟨z0, hz0⟩ : ∃ z0 : Nat → Int, (fun i => zs.getD i 0) = z0 := ⟨_, rfl⟩
  obtain ⟨y0, hy0⟩ : ∃ y0 : Nat → Int, (fun i => ys.getD i 0) = y0 := ⟨_, rfl⟩
  rw [hz0] at HP HOf ⊢
  rw [hy0] at HP2 HOg ⊢
  have HT := Hid.intro hT
  clear hT hv hl hb hp hpos hq hpos2 hz0 hy0 hzl hyl
  unfold pos9 at HOf HOg
  refine callsIn_of_wp Tryd.func28 rfl trivial ?_ rfl
  simp only [Tryd.ntmps28, List.size_toArray, List.length_cons, List.length_nil, Nat.reduceAdd, Nat.reduceSub, Array.replicate_succ, Array.replicate_zero, List.push_toArray, List.append_toArray, List.nil_append, List.cons_append]
  gi_wp2_with (gi_at_call 55; refine HO.out.mono ?_; rintro e w1 ⟨⟨gb, rfl, hgb, hbd⟩, hB⟩; have HB := Hid.intro hB; have HBD := Hid.intro hbd; clear hB hbd; refine stop ?_)
  unfold Stop
  gi_wp2_with (gi_at_call 57; refine (HOf.out _ HB.out).mono ?_; rintro e w2 ⟨rfl, hB2⟩; have HB2 := Hid.intro (HB.out.trans (hB2.mono HB.out.size)); have HBD2 := Hid.intro (HBD.out.from hgb hB2); have hgb2 := Nat.lt_of_lt_of_le hgb hB2.size; clear hB2; refine stop ?_)
  unfold Stop
  gi_wp2_with (gi_at_call 57; refine (HOg.out _ HB2.out).mono ?_; rintro e w3 ⟨rfl, hB3⟩; have HB3 := Hid.intro (HB2.out.trans (hB3.mono HB2.out.size)); have HSv := Hid.intro (solve_calls w3 (HT.out.below (HB2.out.trans (hB3.mono HB2.out.size))) gb N hN (nats ps) HQ.out (HBD2.out.from hgb2 hB3) z0 y0 HP.out HP2.out); unfold pos9 at HSv; clear hB3; refine stop ?_)
  unfold Stop
  gi_wp2_with (gi_at_call 56; refine HSv.out.mono ?_; rintro e w4 ⟨hsd, hB4⟩; have HB4 := Hid.intro (HB3.out.trans (hB4.mono HB3.out.size)); clear hB4; rcases hsd with ⟨vo, ms, rfl, hi, hpm, hd⟩ | ⟨hno, rfl⟩)
  · refine bodyPost_ret (v := .tuple #[.bool true, .int .i64 0]) (by simp [results, Tryd.results28, go_sem]) rfl ?_
    exact ⟨.inl ⟨⟨_, hd⟩, rfl⟩, HB4.out⟩
  · refine bodyPost_ret (v := .tuple #[.bool false, .int .i64 0]) (by simp [results, Tryd.results28, go_sem]) rfl ?_
    exact ⟨.inr ⟨hno, rfl⟩, HB4.out⟩
end Go.Eng

namespace Go.Eng
open Go.RowKit Go.Proofs Go.Proofs.YtjcmalmcijpnnaaDoor

set_option maxRecDepth 100000 in
set_option maxHeartbeats 8000000 in
/-- **'Apply' of the reference, many moves.** -/
theorem refApply_big (w : World) (N : Nat) (hN : 2 ≤ N ∧ N ≤ 9) (o : Option Addr) (cap0 : Nat) (qs : List (Nat × Nat)) (hv : EdgesAt w o qs) (hl : qs.length ≤ 1000) (hq : ∀ q ∈ qs, q.1 < q.2 ∧ q.2 < N)
    (a0 : Addr) (cap1 : Nat) (ha0 : a0.block < w.heap.size) (hcap1 : N ≤ cap1) (z0 : Nat → Int) (h0 : Nat) (hz0 : ∀ i, i < N → w.cell? (a0.add i) = some (.int .i64 (z0 i))) (hp0 : PosZ z0 N h0) (vm : Value) (ms : List Int) (hm : IntsAt w vm ms) (hml : ms.length ≤ 1000000) :
    CallsIn Fence.wide 0 Tryd.prog 25 #[.int .i64 (N : Int), .slice o qs.length cap0, .slice (some a0) N cap1, vm] w fun e w' => Applied N (applyF qs z0 h0 ms) e w' ∧ Below w.heap.size w w' := by
  obtain ⟨om, capm, rfl, HM⟩ : ∃ om cap, vm = .slice om ms.length cap ∧ Hid (0 < ms.length → ∃ a : Addr, om = some a ∧ a.block < w.heap.size ∧ ∀ i, i < ms.length → w.cell? (a.add i) = some (.int .i64 (ms.getD i 0))) := by
    rcases hm with ⟨rfl, rfl⟩ | ⟨a, cap, rfl, hcap, hl2, ha, hc⟩
    · exact ⟨none, 0, rfl, fun h => by simp at h⟩
    · exact ⟨some a, cap, rfl, fun h0 => ⟨a, rfl, ha h0, hc⟩⟩
  have HV := Hid.intro hv
  have HQ := Hid.intro hq
  have HZ0 := Hid.intro hz0
  have HP0 := Hid.intro hp0
  clear hv hq hz0 hp0 hm
  refine callsIn_of_wp Tryd.func25 rfl trivial ?_ rfl
  simp only [Tryd.ntmps25, List.size_toArray, List.length_cons, List.length_nil, Nat.reduceAdd, Nat.reduceSub, Array.replicate_succ, Array.replicate_zero, List.push_toArray, List.append_toArray, List.nil_append, List.cons_append]
  gi_wp2
  gi_loopw [2, 10] (fun p i wr => ∃ (k : Nat) (z : Nat → Int) (h : Nat) (a : Addr) (cap : Nat), k ≤ ms.length ∧ i = .int .i64 (k : Int) ∧ p = .slice (some a) N cap ∧ N ≤ cap ∧ a.block < wr.heap.size ∧ Hid (∀ i, i < N → wr.cell? (a.add i) = some (.int .i64 (z i))) ∧ Hid (PosZ z N h) ∧ Hid (applyF qs z0 h0 ms = ((applyF qs z h (ms.drop k)).1, (applyF qs z h (ms.drop k)).2 + k)) ∧ Hid (Below w.heap.size w wr)) (fun _ i _ => ms.length - (intOf i).toNat)
  case atStart => exact ⟨0, z0, h0, a0, cap1, by omega, rfl, rfl, hcap1, ha0, HZ0.out, HP0.out, rfl, Below.refl _ _⟩
  case round =>
    obtain ⟨k, z, h, a, cap, hk, rfl, rfl, hN1, ha, HZ, HP, HA, HB⟩ := hrel
    by_cases hlt : k < ms.length
    · obtain ⟨am, rfl, ham, hc⟩ := HM.out (by omega)
      have g0 := (HB.out.cell (p := am.add k) (by rw [add_block]; exact ham)).trans (hc k hlt)
      obtain ⟨t, ht⟩ : ∃ t, ms.getD k 0 = t := ⟨_, rfl⟩
      rw [ht] at g0
      have HT := Hid.intro ht
      have HH : Hid (∀ n, CallsIn Fence.wide 0 Tryd.prog 30 #[.slice (some a) N cap] (wr.drewN n) fun e w' => e = .returned (.int .i64 (h : Int)) ∧ w' = wr.drewN n) := fun n =>
        (refHole_calls (wr.drewN n) a N cap (by omega) z (fun i hi => ((below_drewN (Below.refl _ wr) n : Below wr.heap.size wr (wr.drewN n)).cell (p := a.add i) (by rw [add_block]; exact ha)).trans (HZ.out i hi)) h HP.out.lt HP.out.zero HP.out.hole.first).mono fun _ _ q => ⟨q.1, q.2.symm⟩
      have HNr : Hid (∀ n, CallsIn Fence.wide 0 Tryd.prog 29 #[.slice o qs.length cap0, .int .i64 (h : Int), .int .i64 t] (wr.drewN n) fun e w' => e = .returned (.bool (nearB qs h t)) ∧ w' = wr.drewN n) := fun n =>
        (near_calls (wr.drewN n) o cap0 qs ((HV.out.below HB.out).below (below_drewN (Below.refl _ wr) n)) hl h t).mono fun _ _ q => ⟨q.1, q.2.symm⟩
      clear hc ht
      gi_wp2
      gi_quiet ((first | (gi_at_call 30; refine CallsIn.quiet_of_same (HH.out _)) | (gi_at_call 29; refine CallsIn.quiet_of_same (HNr.out _))))
      cases hnb : nearB qs h t with
      | true =>
        obtain ⟨hb1, hb2, _⟩ := near_lt HQ.out hnb
        obtain ⟨T, hT⟩ : ∃ T : Nat, t = (T : Int) := ⟨t.toNat, by omega⟩
        subst hT
        have hTN : T < N := by omega
        have HAp : Hid (applyF qs z0 h0 ms = ((applyF qs (swapAt z h T) T (ms.drop (k + 1))).1, (applyF qs (swapAt z h T) T (ms.drop (k + 1))).2 + (k + 1))) := by
          have e := applyF_yes (z := z) hlt (by rw [HT.out]; exact hnb)
          rw [HT.out] at e
          have e2 : ((T : Int)).toNat = T := rfl
          rw [e2] at e
          show _ = _
          rw [HA.out, e]
          exact Prod.ext rfl (by show _ + 1 + k = _ + (k + 1); omega)
        have hbn : Below wr.heap.size wr (wr.drewN nq) := below_drewN (Below.refl _ wr) nq
        have HMv := Hid.intro (refMoved_calls (wr.drewN nq) a N cap hN (Nat.lt_of_lt_of_le ha hbn.size) z (fun i hi => (hbn.cell (p := a.add i) (by rw [add_block]; exact ha)).trans (HZ.out i hi)) h HP.out.hole T hTN)
        have HBn : Hid (Below w.heap.size w (wr.drewN nq)) := HB.out.trans (hbn.mono HB.out.size)
        clear hbn hnb hb1 hb2
        gi_wp2_with (gi_at_call 31; refine HMv.out.mono ?_; rintro e w2 ⟨v2, rfl, hi2, hB2⟩; have HI2 := Hid.intro hi2; have HB2 := Hid.intro hB2; clear hi2 hB2)
        obtain ⟨a2, cap2, rfl, hc2, ha2, hz2⟩ := HI2.out.to_cells (by omega)
        exact ⟨⟨k + 1, swapAt z h T, T, a2, cap2, by omega, by go_num, rfl, hc2, ha2, hz2, HP.out.move hTN, HAp.out, HBn.out.trans (HB2.out.mono HBn.out.size)⟩, by simp [intOf]; omega⟩
      | false =>
        have HAp : Hid (applyF qs z0 h0 ms = (z, k)) := by
          have e := applyF_no (z := z) hlt (by rw [HT.out]; exact hnb)
          show _ = _
          rw [HA.out, e]
          exact Prod.ext rfl (by show 0 + k = k; omega)
        clear hnb
        gi_wp2
        all_goals (first | go_returns | go_ret | go_end0)
        have hbn : Below wr.heap.size wr (wr.drewN nq) := below_drewN (Below.refl _ wr) nq
        refine ⟨?_, HB.out.trans (hbn.mono HB.out.size)⟩
        rw [HAp.out]
        exact ⟨_, rfl, (IntsAt.of_cells HZ.out ha hN1 (by omega)).below hbn⟩
    · have hkl : k = ms.length := by omega
      have HAp : Hid (applyF qs z0 h0 ms = (z, k)) := by
        have e : ms.drop k = [] := List.drop_of_length_le (by omega)
        show _ = _
        rw [HA.out, e]
        exact Prod.ext rfl (by show 0 + k = k; omega)
      gi_wp2
      all_goals (first | go_returns | go_ret | go_end0)
      refine ⟨?_, HB.out⟩
      rw [HAp.out, hkl]
      exact ⟨_, rfl, IntsAt.of_cells HZ.out ha hN1 (by omega)⟩

/-- A way of moves is applied whole. -/
theorem PathM.applied {qs : List (Nat × Nat)} {N : Nat} (hq : ∀ q ∈ qs, q.1 < q.2 ∧ q.2 < N) : ∀ {p q : Nat → Int} {ms : List Int} {h : Nat}, PosZ p N h → PathM qs N p ms q → applyF qs p h ms = (q, ms.length)
  | p, q, [], h, _, e => by
    have e : p = q := e
    subst e
    rfl
  | p, q, t :: r, h, hp, ⟨z, ⟨h0, a, b, h1, h2, h3, h4⟩, h5, h6⟩ => by
    have hha := h1.unique hp
    subst hha
    have hz : PosZ z N b := by rw [h4]; exact h1.move h2
    have ht : t = (b : Int) := by rw [← h5, holeF_eq hz]
    subst ht
    have ih := PathM.applied hq hz h6
    unfold applyF
    rw [if_pos h3]
    have e2 : ((b : Int)).toNat = b := by omega
    rw [e2, ← h4, ih]
    simp

/-- A list is this position. -/
def PosList (w : World) (v : Value) (N : Nat) (z : Nat → Int) : Prop := Pos N z ∧ ∃ a cap, v = .slice (some a) N cap ∧ N ≤ cap ∧ a.block < w.heap.size ∧ ∀ i, i < N → w.cell? (a.add i) = some (.int .i64 (z i))
theorem PosList.below {w w' : World} {v : Value} {N : Nat} {z : Nat → Int} (h : PosList w v N z) (hb : Below w.heap.size w w') : PosList w' v N z := by
  obtain ⟨hp, a, cap, h1, h2, h3, h4⟩ := h
  exact ⟨hp, a, cap, h1, h2, Nat.lt_of_lt_of_le h3 hb.size, fun i hi => (hb.cell (p := a.add i) (by rw [add_block]; exact h3)).trans (h4 i hi)⟩
theorem PosList.ints {w : World} {v : Value} {N : Nat} {z : Nat → Int} (h : PosList w v N z) (hN : N ≤ 9) : IntsAt w v ((List.range N).map z) := by
  obtain ⟨hp, a, cap, rfl, h2, h3, h4⟩ := h
  exact IntsAt.of_cells h4 h3 h2 (by omega)
theorem PosList.isPos {N : Nat} {z : Nat → Int} (hN : 2 ≤ N ∧ N ≤ 9) (h : Pos N z) : IsPos (N : Int) ((List.range N).map z) := by
  refine ⟨by omega, by simp, fun x hx => ?_, h.mem.1⟩
  obtain ⟨i, hi, rfl⟩ := List.mem_map.1 hx
  exact ⟨h.lo i, h.hi i (List.mem_range.1 hi)⟩
theorem posFun {N : Nat} {z : Nat → Int} (h : Pos N z) : (fun i => ((List.range N).map z).getD i 0) = z := by
  funext i
  by_cases hi : i < N
  · simp [List.getD_eq_getElem?_getD, hi]
  · rw [h.out i (by omega), List.getD_eq_getElem?_getD, List.getElem?_eq_none (by simp; omega)]
    rfl
theorem PosList.of {w : World} {v : Value} {N : Nat} {zs : List Int} (hN : 2 ≤ N ∧ N ≤ 9) (h : IntsAt w v zs) (hp : IsPos (N : Int) zs) : PosList w v N (fun i => zs.getD i 0) := by
  have hl : zs.length = N := by have := hp.2.1; omega
  refine ⟨Pos.of hp, ?_⟩
  rcases h with ⟨rfl, rfl⟩ | ⟨a, cap, rfl, h1, h2, h3, h4⟩
  · simp at hl; omega
  · rw [hl] at h1 h3 h4
    exact ⟨a, cap, by rw [hl], h1, h3 (by omega), h4⟩
theorem PosList.moved {w : World} {v : Value} {N : Nat} {z : Nat → Int} (hN : 2 ≤ N ∧ N ≤ 9) (hz : Pos N z) (h : IntsAt w v ((List.range N).map z)) : PosList w v N z := by
  have := PosList.of hN h (PosList.isPos hN hz)
  rw [posFun hz] at this
  exact this
end Go.Eng
