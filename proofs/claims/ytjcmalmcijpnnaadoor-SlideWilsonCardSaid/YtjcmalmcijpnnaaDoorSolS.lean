/-
  What 'Solve' and 'Reaches' of the program answer.
  Conditions: a board, two positions; the tables of math/bits hold what they are laid with.
-/
import Derived.Test.YtjcmalmcijpnnaaDoorSolD
namespace Go.Eng
open Go.RowKit Go.Proofs Go.Proofs.YtjcmalmcijpnnaaDoor

/-- Two positions are checked with the board. -/
theorem openTwo_calls (w : World) (N : Nat) (hN : 2 ≤ N ∧ N ≤ 9) (v : Value) (ps : List (Int × Int)) (hv : PairsAt w v ps) (hl : ps.length ≤ 1000) (hb : IsBoard N ps) (op : Option Addr) (cp : Nat) (zs : List Int) (hp : IntsAt w (.slice op zs.length cp) zs) (hpos : IsPos (N : Int) zs)
    (oq : Option Addr) (cq : Nat) (ys : List Int) (hq : IntsAt w (.slice oq ys.length cq) ys) (hpos2 : IsPos (N : Int) ys) :
    CallsIn Fence.wide 0 Tryd.prog 55 #[.int .i64 (N : Int), v, .slice (some ⟨w.heap.size, 0, none⟩) 2 2] (w.alloc (.cells #[.slice op zs.length cp, .slice oq ys.length cq] 38)) fun e w' => (∃ g, e = .returned (.tuple #[.pointer (some ⟨g, 0, none⟩), .int .i64 0]) ∧ g < w'.heap.size ∧ BoardAt w' g N (nxs (nats ps))) ∧ Below w.heap.size w w' := by
  have HE : AllErr N ps 2 (fun i => if i = 0 then zs else ys) 0 := .inr (.inr ⟨.inr (.inr ⟨by omega, by simpa using hb, rfl⟩), fun i _ => by
    show IsPos _ (if i = 0 then zs else ys)
    split
    · exact hpos
    · exact hpos2, rfl⟩)
  have HB1 : Below w.heap.size w (w.alloc (.cells #[.slice op zs.length cp, .slice oq ys.length cq] 38)) := (Below.refl _ _).alloc (Nat.le_refl _) _
  refine (openAll_calls _ N v ps (hv.below HB1) hl ⟨w.heap.size, 0, none⟩ 2 2 (by omega) (by simp) (fun i => if i = 0 then .slice op zs.length cp else .slice oq ys.length cq) (fun i => if i = 0 then zs else ys) ?_ (fun i _ => ?_)).mono ?_
  · intro i hi
    have : i = 0 ∨ i = 1 := by omega
    rcases this with rfl | rfl
    · exact World.cell?_alloc_new _ _ _ _
    · exact World.cell?_alloc_new _ _ _ _
  · show IntsAt _ (if i = 0 then _ else _) (if i = 0 then zs else ys)
    split
    · exact hp.below HB1
    · exact hq.below HB1
  · rintro e w' ⟨hB, ⟨c, hc, h, rfl⟩ | ⟨h, g, rfl, hg, hA⟩⟩
    · exact absurd (h.unique HE) hc
    · have hA' : ArrAt w' g 10 (boardCell N (nxs (nats ps))) := by simpa using hA
      exact ⟨⟨g, rfl, hA'.lt (by omega), board_of hA'⟩, HB1.trans (hB.mono (by simp))⟩

/-- What 'Solve' answers. -/
def SolvedTo (qs : List (Nat × Nat)) (N : Nat) (p q : Nat → Int) (e : Ending) (w' : World) : Prop :=
  (∃ v ms, e = .returned (.tuple #[v, .bool true, .int .i64 0]) ∧ IntsAt w' v ms ∧ PathM qs N p ms q ∧ DistE (Mov qs N) p ms.length q) ∨
  ((∀ d, ¬ DistE (Mov qs N) p d q) ∧ e = .returned (.tuple #[.slice none 0 0, .bool false, .int .i64 0]))
def ReachTo (qs : List (Nat × Nat)) (N : Nat) (p q : Nat → Int) (e : Ending) : Prop :=
  ((∃ d, DistE (Mov qs N) p d q) ∧ e = .returned (.tuple #[.bool true, .int .i64 0])) ∨
  ((∀ d, ¬ DistE (Mov qs N) p d q) ∧ e = .returned (.tuple #[.bool false, .int .i64 0]))

set_option maxRecDepth 100000 in
set_option maxHeartbeats 8000000 in
/-- **'Solve' of the program.** -/
theorem slideSolve_calls (w : World) (hT : TabsIn w) (N : Nat) (hN : 2 ≤ N ∧ N ≤ 9) (v : Value) (ps : List (Int × Int)) (hv : PairsAt w v ps) (hl : ps.length ≤ 1000) (hb : IsBoard N ps) (vp : Value) (zs : List Int) (hp : IntsAt w vp zs) (hpos : IsPos (N : Int) zs) (vq : Value) (ys : List Int) (hq : IntsAt w vq ys) (hpos2 : IsPos (N : Int) ys) :
    CallsIn Fence.wide 0 Tryd.prog 22 #[.int .i64 (N : Int), v, vp, vq] w fun e w' => SolvedTo (nats ps) N (fun i => zs.getD i 0) (fun i => ys.getD i 0) e w' ∧ Below w.heap.size w w' := by
  obtain ⟨op, cp, rfl⟩ := hp.form
  obtain ⟨oq, cq, rfl⟩ := hq.form
  have hzl : zs.length = N := by have := hpos.2.1; omega
  have hyl : ys.length = N := by have := hpos2.2.1; omega
  have HQ := Hid.intro (nats_mem hb.1)
  have HO := Hid.intro (openTwo_calls w N hN v ps hv hl hb op cp zs hp hpos oq cq ys hq hpos2)
  have HOf : Hid (∀ w', Below w.heap.size w w' → CallsIn Fence.wide 0 Tryd.prog 57 #[.slice op zs.length cp] w' fun e w'' => e = .returned (.agg (pos9 fun i => zs.getD i 0)) ∧ Below w'.heap.size w' w'') := fun w' hw =>
    of_calls w' _ zs (hp.below hw) (by omega) (fun x hx => by have := hpos.2.2.1 x hx; omega)
  have HOg : Hid (∀ w', Below w.heap.size w w' → CallsIn Fence.wide 0 Tryd.prog 57 #[.slice oq ys.length cq] w' fun e w'' => e = .returned (.agg (pos9 fun i => ys.getD i 0)) ∧ Below w'.heap.size w' w'') := fun w' hw =>
    of_calls w' _ ys (hq.below hw) (by omega) (fun x hx => by have := hpos2.2.2.1 x hx; omega)
  have HP := Hid.intro (Pos.of hpos)
  have HP2 := Hid.intro (Pos.of hpos2)
  obtain ⟨z0, hz0⟩ : ∃ z0 : Nat → Int, (fun i => zs.getD i 0) = z0 := ⟨_, rfl⟩
  obtain ⟨y0, hy0⟩ : ∃ y0 : Nat → Int, (fun i => ys.getD i 0) = y0 := ⟨_, rfl⟩
  rw [hz0] at HP HOf ⊢
  rw [hy0] at HP2 HOg ⊢
  have HT := Hid.intro hT
  clear hT hv hl hb hp hpos hq hpos2 hz0 hy0 hzl hyl
  unfold pos9 at HOf HOg
  refine callsIn_of_wp Tryd.func22 rfl trivial ?_ rfl
  simp only [Tryd.ntmps22, List.size_toArray, List.length_cons, List.length_nil, Nat.reduceAdd, Nat.reduceSub, Array.replicate_succ, Array.replicate_zero, List.push_toArray, List.append_toArray, List.nil_append, List.cons_append]
  gi_wp2_with (gi_at_call 55; refine HO.out.mono ?_; rintro e w1 ⟨⟨gb, rfl, hgb, hbd⟩, hB⟩; have HB := Hid.intro hB; have HBD := Hid.intro hbd; clear hB hbd; refine stop ?_)
  unfold Stop
  gi_wp2_with (gi_at_call 57; refine (HOf.out _ HB.out).mono ?_; rintro e w2 ⟨rfl, hB2⟩; have HB2 := Hid.intro (HB.out.trans (hB2.mono HB.out.size)); have HBD2 := Hid.intro (HBD.out.from hgb hB2); have hgb2 := Nat.lt_of_lt_of_le hgb hB2.size; clear hB2; refine stop ?_)
  unfold Stop
  gi_wp2_with (gi_at_call 57; refine (HOg.out _ HB2.out).mono ?_; rintro e w3 ⟨rfl, hB3⟩; have HB3 := Hid.intro (HB2.out.trans (hB3.mono HB2.out.size)); have HSv := Hid.intro (solve_calls w3 (HT.out.below (HB2.out.trans (hB3.mono HB2.out.size))) gb N hN (nats ps) HQ.out (HBD2.out.from hgb2 hB3) z0 y0 HP.out HP2.out); unfold pos9 at HSv; clear hB3; refine stop ?_)
  unfold Stop
  gi_wp2_with (gi_at_call 56; refine HSv.out.mono ?_; rintro e w4 ⟨hsd, hB4⟩; have HB4 := Hid.intro (HB3.out.trans (hB4.mono HB3.out.size)); clear hB4; rcases hsd with ⟨vo, ms, rfl, hi, hpm, hd⟩ | ⟨hno, rfl⟩)
  · refine bodyPost_ret (v := .tuple #[vo, .bool true, .int .i64 0]) (by simp [results, Tryd.results22, go_sem]) rfl ?_
    exact ⟨.inl ⟨vo, ms, rfl, hi, hpm, hd⟩, HB4.out⟩
  · refine bodyPost_ret (v := .tuple #[.slice none 0 0, .bool false, .int .i64 0]) (by simp [results, Tryd.results22, go_sem]) rfl ?_
    exact ⟨.inr ⟨hno, rfl⟩, HB4.out⟩
set_option maxRecDepth 100000 in
set_option maxHeartbeats 8000000 in
/-- **'Reaches' of the program.** -/
theorem reaches_calls (w : World) (hT : TabsIn w) (N : Nat) (hN : 2 ≤ N ∧ N ≤ 9) (v : Value) (ps : List (Int × Int)) (hv : PairsAt w v ps) (hl : ps.length ≤ 1000) (hb : IsBoard N ps) (vp : Value) (zs : List Int) (hp : IntsAt w vp zs) (hpos : IsPos (N : Int) zs) (vq : Value) (ys : List Int) (hq : IntsAt w vq ys) (hpos2 : IsPos (N : Int) ys) :
    CallsIn Fence.wide 0 Tryd.prog 28 #[.int .i64 (N : Int), v, vp, vq] w fun e w' => ReachTo (nats ps) N (fun i => zs.getD i 0) (fun i => ys.getD i 0) e ∧ Below w.heap.size w w' := by
  obtain ⟨op, cp, rfl⟩ := hp.form
  obtain ⟨oq, cq, rfl⟩ := hq.form
  have hzl : zs.length = N := by have := hpos.2.1; omega
  have hyl : ys.length = N := by have := hpos2.2.1; omega
  have HQ := Hid.intro (nats_mem hb.1)
  have HO := Hid.intro (openTwo_calls w N hN v ps hv hl hb op cp zs hp hpos oq cq ys hq hpos2)
  have HOf : Hid (∀ w', Below w.heap.size w w' → CallsIn Fence.wide 0 Tryd.prog 57 #[.slice op zs.length cp] w' fun e w'' => e = .returned (.agg (pos9 fun i => zs.getD i 0)) ∧ Below w'.heap.size w' w'') := fun w' hw =>
    of_calls w' _ zs (hp.below hw) (by omega) (fun x hx => by have := hpos.2.2.1 x hx; omega)
  have HOg : Hid (∀ w', Below w.heap.size w w' → CallsIn Fence.wide 0 Tryd.prog 57 #[.slice oq ys.length cq] w' fun e w'' => e = .returned (.agg (pos9 fun i => ys.getD i 0)) ∧ Below w'.heap.size w' w'') := fun w' hw =>
    of_calls w' _ ys (hq.below hw) (by omega) (fun x hx => by have := hpos2.2.2.1 x hx; omega)
  have HP := Hid.intro (Pos.of hpos)
  have HP2 := Hid.intro (Pos.of hpos2)
  obtain ⟨z0, hz0⟩ : ∃ z0 : Nat → Int, (fun i => zs.getD i 0) = z0 := ⟨_, rfl⟩
  obtain ⟨y0, hy0⟩ : ∃ y0 : Nat → Int, (fun i => ys.getD i 0) = y0 := ⟨_, rfl⟩
  rw [hz0] at HP HOf ⊢
  rw [hy0] at HP2 HOg ⊢
  have HT := Hid.intro hT
  clear hT hv hl hb hp hpos hq hpos2 hz0 hy0 hzl hyl
  unfold pos9 at HOf HOg
  refine callsIn_of_wp Tryd.func28 rfl trivial ?_ rfl
  simp only [Tryd.ntmps28, List.size_toArray, List.length_cons, List.length_nil, Nat.reduceAdd, Nat.reduceSub, Array.replicate_succ, Array.replicate_zero, List.push_toArray, List.append_toArray, List.nil_append, List.cons_append]
  gi_wp2_with (gi_at_call 55; refine HO.out.mono ?_; rintro e w1 ⟨⟨gb, rfl, hgb, hbd⟩, hB⟩; have HB := Hid.intro hB; have HBD := Hid.intro hbd; clear hB hbd; refine stop ?_)
  unfold Stop
  gi_wp2_with (gi_at_call 57; refine (HOf.out _ HB.out).mono ?_; rintro e w2 ⟨rfl, hB2⟩; have HB2 := Hid.intro (HB.out.trans (hB2.mono HB.out.size)); have HBD2 := Hid.intro (HBD.out.from hgb hB2); have hgb2 := Nat.lt_of_lt_of_le hgb hB2.size; clear hB2; refine stop ?_)
  unfold Stop
  gi_wp2_with (gi_at_call 57; refine (HOg.out _ HB2.out).mono ?_; rintro e w3 ⟨rfl, hB3⟩; have HB3 := Hid.intro (HB2.out.trans (hB3.mono HB2.out.size)); have HSv := Hid.intro (solve_calls w3 (HT.out.below (HB2.out.trans (hB3.mono HB2.out.size))) gb N hN (nats ps) HQ.out (HBD2.out.from hgb2 hB3) z0 y0 HP.out HP2.out); unfold pos9 at HSv; clear hB3; refine stop ?_)
  unfold Stop
  gi_wp2_with (gi_at_call 56; refine HSv.out.mono ?_; rintro e w4 ⟨hsd, hB4⟩; have HB4 := Hid.intro (HB3.out.trans (hB4.mono HB3.out.size)); clear hB4; rcases hsd with ⟨vo, ms, rfl, hi, hpm, hd⟩ | ⟨hno, rfl⟩)
  · refine bodyPost_ret (v := .tuple #[.bool true, .int .i64 0]) (by simp [results, Tryd.results28, go_sem]) rfl ?_
    exact ⟨.inl ⟨⟨_, hd⟩, rfl⟩, HB4.out⟩
  · refine bodyPost_ret (v := .tuple #[.bool false, .int .i64 0]) (by simp [results, Tryd.results28, go_sem]) rfl ?_
    exact ⟨.inr ⟨hno, rfl⟩, HB4.out⟩
end Go.Eng
