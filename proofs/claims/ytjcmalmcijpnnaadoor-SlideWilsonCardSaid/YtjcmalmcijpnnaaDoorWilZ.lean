/-
  What the reference's 'Ring' and the law's 'seven' answer.
  Conditions: none.
-/
import Derived.Test.YtjcmalmcijpnnaaDoorWilY
import Derived.Test.YtjcmalmcijpnnaaDoorBfsX
import Derived.Test.YtjcmalmcijpnnaaDoorBrdF
import Derived.Test.YtjcmalmcijpnnaaDoorWavX
import Derived.Maps.OwnIn

namespace Go.Eng
open Go.RowKit Go.Proofs Go.Proofs.YtjcmalmcijpnnaaDoor

/-- The neighbours of a place that are counted after some edges, and some ends of the next one. -/
def degTo (qs : List (Nat × Nat)) (i k v : Nat) : Nat := (nbL (qs.take i) v).length + (if 1 ≤ k ∧ (qs.getD i (0, 0)).1 = v then 1 else 0) + (if 2 ≤ k ∧ (qs.getD i (0, 0)).2 = v then 1 else 0)
theorem degTo_zero (qs : List (Nat × Nat)) (v : Nat) : degTo qs 0 0 v = 0 := by simp [degTo, nbL]
theorem nbL_app (l r : List (Nat × Nat)) (v : Nat) : nbL (l ++ r) v = nbL l v ++ nbL r v := by unfold nbL; rw [List.filterMap_append]
theorem degTo_next {qs : List (Nat × Nat)} {N i : Nat} (hq : ∀ q ∈ qs, q.1 < q.2 ∧ q.2 < N) (hi : i < qs.length) (v : Nat) : degTo qs i 2 v = degTo qs (i + 1) 0 v := by
  have e : qs.getD i (0, 0) = qs[i] := by rw [List.getD_eq_getElem?_getD, List.getElem?_eq_getElem hi]; rfl
  have hlt := hq _ (List.getElem_mem hi)
  unfold degTo
  rw [e, List.take_succ_eq_append_getElem hi, nbL_app, List.length_append, nbL_cons]
  have h0 : nbL [] v = [] := rfl
  rw [h0, List.append_nil]
  by_cases h1 : qs[i].1 = v
  · have h2 : qs[i].2 ≠ v := by omega
    simp [h1, h2]
  · by_cases h2 : qs[i].2 = v
    · simp [h1, h2]
    · simp [h1, h2]
theorem degTo_one (qs : List (Nat × Nat)) (k v : Nat) : degTo qs k 1 v = degTo qs k 0 v + if (qs.getD k (0, 0)).1 = v then 1 else 0 := by
  simp [degTo]
theorem degTo_two (qs : List (Nat × Nat)) (k v : Nat) : degTo qs k 2 v = degTo qs k 1 v + if (qs.getD k (0, 0)).2 = v then 1 else 0 := by
  simp [degTo]
theorem degTo_le {qs : List (Nat × Nat)} (i k v : Nat) : degTo qs i k v ≤ qs.length + 2 := by
  have h1 : (nbL (qs.take i) v).length ≤ qs.length := by
    have := List.length_filterMap_le (fun q : Nat × Nat => if q.1 = v then some q.2 else if q.2 = v then some q.1 else none) (qs.take i)
    have h2 : (qs.take i).length ≤ qs.length := by simp; omega
    unfold nbL
    omega
  unfold degTo
  split <;> split <;> omega
theorem degTo_end {qs : List (Nat × Nat)} (v : Nat) : degTo qs qs.length 0 v = (nbL qs v).length := by
  unfold degTo
  rw [List.take_of_length_le (Nat.le_refl _)]
  simp

set_option maxRecDepth 100000 in
set_option maxHeartbeats 8000000 in
/-- **'Ring' of the reference.** -/
theorem ring_calls (w : World) (N : Nat) (hN : 2 ≤ N ∧ N ≤ 9) (ox : Option Addr) (cx : Nat) (qs : List (Nat × Nat)) (hed : EdgesAt w ox qs) (hql : qs.length ≤ 1000) (hq : ∀ q ∈ qs, q.1 < q.2 ∧ q.2 < N) :
    CallsIn Fence.wide 0 Tryd.prog 40 #[.int .i64 (N : Int), .slice ox qs.length cx] w fun e w' => Says (∀ v, v < N → (nbL qs v).length = 2) e ∧ Below w.heap.size w w' := by
  have HED := Hid.intro hed
  have HQ := Hid.intro hq
  have HL := Hid.intro hql
  clear hed hq
  refine callsIn_of_wp Tryd.func40 rfl trivial ?_ rfl
  simp only [Tryd.ntmps40, List.size_toArray, List.length_cons, List.length_nil, Nat.reduceAdd, Nat.reduceSub, Array.replicate_succ, Array.replicate_zero, List.push_toArray, List.append_toArray, List.nil_append, List.cons_append]
  gi_wp2_with (gi_at_make; refine stop ?_)
  unfold Stop
  refine wpListIn_make_full _ rfl _ _ _ rfl w.heap.size 3 Tryd.t3 _ 1 Go.Eng.u38 t3_info t3_zero t3_size _ _ _ _ N rfl rfl rfl rfl (by rw [t3_bytes]; omega) (by unfold maxLen; omega) (Nat.le_refl _) ?_
  intro W4 hown hgrow
  obtain ⟨g, hg'⟩ : ∃ g, w.heap.size = g := ⟨_, rfl⟩
  have HA4 : Hid (ArrAt W4 g N fun v => .int .i64 ((degTo qs 0 0 v : Nat) : Int)) := by
    rw [← hg']
    exact ArrAt.of_row hown fun i hi => by rw [degTo_zero]; exact t3_row (by omega)
  have HB5 : Hid (Below w.heap.size w W4) := (Below.refl _ w).grown hgrow (Nat.le_refl _) (fun _ h => by cases h)
  have hg : w.heap.size ≤ g := by omega
  rw [hg']
  clear hown hgrow hg'
  gi_wp2
  gi_loopw [6] (fun i wr => ∃ k : Nat, k ≤ qs.length ∧ i = .int .i64 (k : Int) ∧ Hid (Below w.heap.size w wr) ∧ Hid (ArrAt wr g N fun v => .int .i64 ((degTo qs k 0 v : Nat) : Int))) (fun i _ => qs.length - (intOf i).toNat)
  case atStart => exact ⟨0, by omega, rfl, HB5.out, HA4.out⟩
  case round =>
    obtain ⟨k, hk, rfl, HBk, HAk⟩ := hrel
    clear HB5 HA4
    by_cases hlt : k < qs.length
    · gi_wp2
      gi_loopw [7] (fun j wj => ∃ m : Nat, m ≤ 2 ∧ j = .int .i64 (m : Int) ∧ Hid (Below w.heap.size w wj) ∧ Hid (ArrAt wj g N fun v => .int .i64 ((degTo qs k m v : Nat) : Int))) (fun j _ => 2 - (intOf j).toNat)
      case atStart => exact ⟨0, by omega, rfl, HBk.out, HAk.out⟩
      case round =>
        obtain ⟨m, hm, rfl, HBm, HAm⟩ := hrel
        clear HBk HAk
        obtain ⟨a, rfl, ha, hc⟩ := HED.out (by omega)
        have g0 := (HBm.out.cell (p := a.add (k * 2)) (by rw [add_block]; exact ha)).trans (hc k hlt).1
        have g1 := (HBm.out.cell (p := a.add (k * 2 + 1)) (by rw [add_block]; exact ha)).trans (hc k hlt).2
        rw [← add_add_one] at g1
        obtain ⟨x, hx⟩ : ∃ x, (qs.getD k (0, 0)).1 = x := ⟨_, rfl⟩
        obtain ⟨y, hy⟩ : ∃ y, (qs.getD k (0, 0)).2 = y := ⟨_, rfl⟩
        have e : qs.getD k (0, 0) = qs[k] := by rw [List.getD_eq_getElem?_getD, List.getElem?_eq_getElem hlt]; rfl
        have hlt2 := HQ.out _ (List.getElem_mem hlt)
        rw [← e, hx, hy] at hlt2
        have hxN : x < N := by omega
        have hyN : y < N := by omega
        have zx : wr.cell? ⟨g, x, none⟩ = some (.int .i64 ((degTo qs k m x : Nat) : Int)) := (HAm.out x hxN).1
        have fx := (HAm.out x hxN).2
        have zy : wr.cell? ⟨g, y, none⟩ = some (.int .i64 ((degTo qs k m y : Nat) : Int)) := (HAm.out y hyN).1
        have fy := (HAm.out y hyN).2
        obtain ⟨dx, hdx⟩ : ∃ d, degTo qs k m x = d := ⟨_, rfl⟩
        obtain ⟨dy, hdy⟩ : ∃ d, degTo qs k m y = d := ⟨_, rfl⟩
        have lx : dx ≤ 1010 := by have := degTo_le (qs := qs) k m x; omega
        have ly : dy ≤ 1010 := by have := degTo_le (qs := qs) k m y; omega
        rw [hx] at g0
        rw [hy] at g1
        rw [hdx] at zx
        rw [hdy] at zy
        have HX := Hid.intro hx
        have HY := Hid.intro hy
        have HDX := Hid.intro hdx
        have HDY := Hid.intro hdy
        clear hc hx hy e hdx hdy
        have hm3 : m = 0 ∨ m = 1 ∨ m = 2 := by omega
        rcases hm3 with rfl | rfl | rfl
        · gi_wp2
          refine ⟨⟨1, by omega, rfl, HBm.out.setCell hg _, ?_⟩, by simp [intOf]⟩
          refine Hid.intro (ArrAt.congr (HAm.out.set hxN (.int .i64 ((dx : Int) + 1))) fun j _ => ?_)
          have e1 := degTo_one qs k j
          rw [HX.out] at e1
          by_cases h : j = x
          · subst h
            rw [if_pos rfl]
            rw [if_pos rfl, HDX.out] at e1
            rw [e1]; rfl
          · rw [if_neg h]
            rw [if_neg (Ne.symm h)] at e1
            rw [e1]; rfl
        · gi_wp2
          refine ⟨⟨2, by omega, rfl, HBm.out.setCell hg _, ?_⟩, by simp [intOf]⟩
          refine Hid.intro (ArrAt.congr (HAm.out.set hyN (.int .i64 ((dy : Int) + 1))) fun j _ => ?_)
          have e1 := degTo_two qs k j
          rw [HY.out] at e1
          by_cases h : j = y
          · subst h
            rw [if_pos rfl]
            rw [if_pos rfl, HDY.out] at e1
            rw [e1]; rfl
          · rw [if_neg h]
            rw [if_neg (Ne.symm h)] at e1
            rw [e1]; rfl
        · gi_wp2
          refine ⟨⟨k + 1, by omega, by go_num, HBm.out, ?_⟩, by simp [intOf]; omega⟩
          exact Hid.intro (ArrAt.congr HAm.out fun j _ => by rw [degTo_next HQ.out hlt])
    · have hkl : k = qs.length := by omega
      subst hkl
      have HAe : Hid (ArrAt wr g N fun v => .int .i64 (((nbL qs v).length : Nat) : Int)) := Hid.intro (ArrAt.congr HAk.out fun j _ => by rw [degTo_end])
      clear HAk
      gi_wp2
      gi_loopw [9] (fun i wi => ∃ m : Nat, m ≤ N ∧ i = .int .i64 (m : Int) ∧ Hid (∀ v, v < m → (nbL qs v).length = 2) ∧ wi = wr) (fun i _ => N - (intOf i).toNat)
      case atStart => exact ⟨0, by omega, rfl, Hid.intro (fun v hv => absurd hv (by omega)), rfl⟩
      case round =>
        obtain ⟨m, hm, rfl, HV, rfl⟩ := hrel
        by_cases hlt2 : m < N
        · have z : wr.cell? ⟨g, m, none⟩ = some (.int .i64 (((nbL qs m).length : Nat) : Int)) := (HAe.out m hlt2).1
          obtain ⟨d, hd⟩ : ∃ d, (nbL qs m).length = d := ⟨_, rfl⟩
          rw [hd] at z
          have HD := Hid.intro hd
          clear hd
          by_cases h2 : d = 2
          · subst h2
            gi_wp2
            refine ⟨⟨m + 1, by omega, by go_num, Hid.intro (fun v hv => ?_), trivial⟩, by simp [intOf]; omega⟩
            by_cases e : v = m
            · rw [e]; exact HD.out
            · exact HV.out v (by omega)
          · have h2' : ¬ (d : Int) = 2 := by omega
            gi_wp2
            all_goals (first | go_returns | go_ret | go_end0)
            exact ⟨⟨false, by simp; exact ⟨m, hlt2, by rw [HD.out]; exact h2⟩, rfl⟩, HBk.out⟩
        · have hmN : m = N := by omega
          subst hmN
          gi_wp2
          all_goals (first | go_returns | go_ret | go_end0)
          exact ⟨⟨true, ⟨fun _ => HV.out, fun _ => rfl⟩, rfl⟩, HBk.out⟩
end Go.Eng

namespace Go.Eng
open Go.RowKit Go.Proofs Go.Proofs.YtjcmalmcijpnnaaDoor

theorem t38_parts : (Tryd.prog.info? 38).map (fun i => (i.zero, i.size, i.bytes)) = some (some (.slice none 0 0), 1, 24) := by kernel_rfl
theorem under94' : Tryd.prog.underlying 94 = some (.slice 38) := by kernel_rfl
/-- Seven rows of numbers, each of its own, their heads in one block. -/
structure Rows7 (g B : Nat) (vs : Nat → Value) (L : Nat → List Nat) (wr : World) : Prop where
  lo : g < B
  hi : B ≤ wr.heap.size
  arr : ArrAt wr g 7 vs
  row : ∀ v, v < 7 → NumsAt wr B (vs v) ((L v).map fun t : Nat => (t : Int))
  apart : ∀ u v, u < 7 → v < 7 → u ≠ v → ∀ k, (vs u).ownBlock = some k → (vs v).ownBlock ≠ some k
def putV7 (vs : Nat → Value) (x : Nat) (v : Value) : Nat → Value := fun j => if j = x then v else vs j
def putN7 (L : Nat → List Nat) (x y : Nat) : Nat → List Nat := fun j => if j = x then L j ++ [y] else L j
theorem Rows7.start {g B : Nat} {wr : World} (h1 : g < B) (h2 : B ≤ wr.heap.size) (ha : ArrAt wr g 7 fun _ => .slice none 0 0) : Rows7 g B (fun _ => .slice none 0 0) (fun _ => []) wr :=
  ⟨h1, h2, ha, fun _ _ => World.ownsRow_nil _ _ _ _, fun _ _ _ _ _ k h => by cases h⟩
theorem Rows7.below {g B : Nat} {vs : Nat → Value} {L : Nat → List Nat} {wr w' : World} (h : Rows7 g B vs L wr) (hb : Below wr.heap.size wr w') : Rows7 g B vs L w' :=
  ⟨h.lo, Nat.le_trans h.hi hb.size, h.arr.below (Nat.lt_of_lt_of_le h.lo h.hi) hb, fun v hv => ownsRow_below (h.row v hv) hb, h.apart⟩
theorem Rows7.append {g B x y : Nat} {vs : Nat → Value} {L : Nat → List Nat} {wr w2 : World} {o : Obj} {v2 : Value} (h : Rows7 g B vs L wr) (hx : x < 7)
    (hown : w2.ownsRow B 3 1 v2 (((L x).map fun t : Nat => (t : Int)).length + 1) (((L x).map fun t : Nat => (t : Int)).map (Value.int .i64) ++ [.int .i64 (y : Int)]))
    (hg : (wr.alloc o).grownBy w2 (vs x).ownBlock) (hat : v2.ownBlock = (vs x).ownBlock ∨ v2.ownBlock = some (wr.alloc o).heap.size) : Rows7 g B (putV7 vs x v2) (putN7 L x y) (w2.setCell ⟨g, x, none⟩ v2) := by
  have hl := h.lo
  have hh := h.hi
  have hs2 : wr.heap.size + 1 ≤ w2.heap.size := by have := hg.size; simpa using this
  have hro : ∀ v, v < 7 → ∀ k, (vs v).ownBlock = some k → B ≤ k ∧ k < wr.heap.size := fun v hv => World.ownsRow.lt (h.row v hv)
  have set : ∀ {v : Value} {zs : List Int}, NumsAt w2 B v zs → NumsAt (w2.setCell ⟨g, x, none⟩ v2) B v zs := fun {v zs} hn => by
    refine World.ownsRow.kept hn (grownBy_set w2 ⟨g, x, none⟩ v2) (.inr fun e => ?_)
    have := (World.ownsRow.lt hn g e).1
    omega
  have ha2 : ArrAt w2 g 7 vs := (h.arr.alloc (by omega) o).grown (by simp; omega) hg fun k e => by have := hro x hx k e; omega
  refine ⟨hl, by show B ≤ (World.setCell w2 _ v2).heap.size; rw [World.size_setCell]; omega, ha2.set hx v2, fun v hv => ?_, fun u v hu hv huv k h1 h2 => ?_⟩
  · unfold putV7 putN7
    by_cases e : v = x
    · subst e
      rw [if_pos rfl, if_pos rfl]
      refine set ?_
      unfold NumsAt
      rw [List.map_append, List.map_append, List.length_append]
      exact hown
    · rw [if_neg e, if_neg e]
      refine set (World.ownsRow.kept (World.ownsRow.alloc (h.row v hv) o) hg ?_)
      cases hv' : (vs v).ownBlock with
      | none => exact .inl rfl
      | some k => exact .inr fun q => h.apart v x hv hx e k hv' q.symm
  · unfold putV7 at h1 h2
    by_cases e1 : u = x
    · rw [if_pos e1] at h1
      have e2 : v ≠ x := fun q => huv (e1.trans q.symm)
      rw [if_neg e2] at h2
      rcases hat with hat | hat
      · rw [hat] at h1
        exact h.apart v x hv hx e2 k h2 h1
      · rw [h1] at hat
        injection hat with hat
        have := (hro v hv k h2).2
        simp at hat
        omega
    · rw [if_neg e1] at h1
      by_cases e2 : v = x
      · rw [if_pos e2] at h2
        rcases hat with hat | hat
        · rw [hat] at h2
          exact h.apart u x hu hx e1 k h1 h2
        · rw [h2] at hat
          injection hat with hat
          have := (hro u hu k h1).2
          simp at hat
          omega
      · rw [if_neg e2] at h2
        exact h.apart u v hu hv huv k h1 h2
theorem ownsRow_form {w : World} {base : Nat} {e : TypeId} {size n : Nat} {v : Value} {xs : List Value} (h : w.ownsRow base e size v n xs) : ∃ o c, v = .slice o n c := by
  rcases h.2 with ⟨rfl, h0⟩ | ⟨g, cap, cur, rfl, _⟩
  · exact ⟨none, 0, by rw [h0]⟩
  · exact ⟨_, _, rfl⟩
theorem Rows7.mid {g B x : Nat} {vs : Nat → Value} {L : Nat → List Nat} {wr w2 : World} {o : Obj} (h : Rows7 g B vs L wr) (hx : x < 7) (hg : (wr.alloc o).grownBy w2 (vs x).ownBlock) : ArrAt w2 g 7 vs := by
  have hl := h.lo
  have hh := h.hi
  exact (h.arr.alloc (by omega) o).grown (by simp; omega) hg fun k e => by have := (World.ownsRow.lt (h.row x hx)) k e; omega
theorem Rows7.under {g B x b : Nat} {vs : Nat → Value} {L : Nat → List Nat} {w wr w2 : World} {o : Obj} {v2 : Value} (h : Rows7 g B vs L wr) (hx : x < 7) (hb : b ≤ g) (hw : Below b w wr) (hg : (wr.alloc o).grownBy w2 (vs x).ownBlock) : Below b w (w2.setCell ⟨g, x, none⟩ v2) := by
  have hl := h.lo
  have hh := h.hi
  exact ((hw.alloc (by omega) o).grown hg (by simp; omega) fun k e => by have := (World.ownsRow.lt (h.row x hx)) k e; omega).setCell (p := ⟨g, x, none⟩) hb v2
theorem rows_next {qs : List (Nat × Nat)} {N i : Nat} (hq : ∀ q ∈ qs, q.1 < q.2 ∧ q.2 < N) (hi : i < qs.length) : putN7 (putN7 (nbL (qs.take i)) (qs.getD i (0, 0)).1 (qs.getD i (0, 0)).2) (qs.getD i (0, 0)).2 (qs.getD i (0, 0)).1 = nbL (qs.take (i + 1)) := by
  have e : qs.getD i (0, 0) = qs[i] := by rw [List.getD_eq_getElem?_getD, List.getElem?_eq_getElem hi]; rfl
  have hlt := hq _ (List.getElem_mem hi)
  funext v
  rw [e, List.take_succ_eq_append_getElem hi, nbL_app, nbL_cons]
  have h0 : nbL [] v = [] := rfl
  rw [h0, List.append_nil]
  unfold putN7
  by_cases h1 : qs[i].1 = v
  · have h2 : v ≠ qs[i].2 := by omega
    rw [if_pos h1, if_neg h2, if_pos h1.symm]
  · by_cases h2 : qs[i].2 = v
    · rw [if_neg h1, if_pos h2, if_pos h2.symm, if_neg (Ne.symm h1)]
    · rw [if_neg h1, if_neg h2, if_neg (Ne.symm h2), if_neg (Ne.symm h1), List.append_nil]

theorem nbL_le (qs : List (Nat × Nat)) (k v : Nat) : (nbL (qs.take k) v).length ≤ k := by
  have := List.length_filterMap_le (fun q : Nat × Nat => if q.1 = v then some q.2 else if q.2 = v then some q.1 else none) (qs.take k)
  have h2 : (qs.take k).length ≤ k := by simp; omega
  unfold nbL
  omega

def three (qs : List (Nat × Nat)) (k : Nat) : List Nat := (List.range k).filter fun i => decide ((nbL qs i).length = 3)
theorem three_yes {qs : List (Nat × Nat)} {k : Nat} (h : (nbL qs k).length = 3) : three qs (k + 1) = three qs k ++ [k] := by
  unfold three; rw [List.range_succ, List.filter_append]; simp [h]
theorem three_no {qs : List (Nat × Nat)} {k : Nat} (h : (nbL qs k).length ≠ 3) : three qs (k + 1) = three qs k := by
  unfold three; rw [List.range_succ, List.filter_append]; simp [h]
theorem three_len (qs : List (Nat × Nat)) (k : Nat) : (three qs k).length ≤ k := by
  have := List.length_filter_le (fun i => decide ((nbL qs i).length = 3)) (List.range k)
  unfold three
  simpa using this
/-- A row, as it lies. -/
def LiesAt (w : World) (v : Value) (l : List Nat) : Prop := ∃ o c, v = .slice o l.length c ∧ (0 < l.length → ∃ b : Addr, o = some b ∧ b.block < w.heap.size ∧ ∀ i, i < l.length → w.cell? (b.add i) = some (.int .i64 ((l.getD i 0 : Nat) : Int)))
theorem NumsAt.lies {w : World} {B : Nat} {v : Value} {l : List Nat} (h : NumsAt w B v (l.map fun t : Nat => (t : Int))) : LiesAt w v l := by
  obtain ⟨o, c, e, hc⟩ := h.ints.cellsAt
  rw [List.length_map] at e hc
  refine ⟨o, c, e, fun h0 => ?_⟩
  obtain ⟨b, e1, e2, e3⟩ := hc h0
  refine ⟨b, e1, e2, fun i hi => ?_⟩
  rw [e3 i hi]
  have : (l.map fun t : Nat => (t : Int)).getD i 0 = ((l.getD i 0 : Nat) : Int) := by
    rw [List.getD_eq_getElem?_getD, List.getD_eq_getElem?_getD, List.getElem?_map, List.getElem?_eq_getElem hi]
    rfl
  rw [this]
theorem LiesAt.below {w w' : World} {v : Value} {l : List Nat} (h : LiesAt w v l) (hb : Below w.heap.size w w') : LiesAt w' v l := by
  obtain ⟨o, c, e, hc⟩ := h
  refine ⟨o, c, e, fun h0 => ?_⟩
  obtain ⟨b, e1, e2, e3⟩ := hc h0
  exact ⟨b, e1, Nat.lt_of_lt_of_le e2 hb.size, fun i hi => (hb.cell (p := b.add i) (by rw [add_block]; exact e2)).trans (e3 i hi)⟩

set_option maxRecDepth 100000 in
set_option maxHeartbeats 16000000 in
/-- **'seven' of the law's package.** -/
theorem seven_calls (w : World) (N : Nat) (hN : 2 ≤ N ∧ N ≤ 9) (ox : Option Addr) (cx : Nat) (qs : List (Nat × Nat)) (hed : EdgesAt w ox qs) (hql : qs.length ≤ 1000) (hq : ∀ q ∈ qs, q.1 < q.2 ∧ q.2 < N) :
    CallsIn Fence.wide 0 Tryd.prog 41 #[.int .i64 (N : Int), .slice ox qs.length cx] w fun e w' => Says (SevenP N qs) e ∧ Below w.heap.size w w' := by
  have HED := Hid.intro hed
  have HQ := Hid.intro hq
  clear hed hq
  refine callsIn_of_wp Tryd.func41 rfl trivial ?_ rfl
  simp only [Tryd.ntmps41, List.size_toArray, List.length_cons, List.length_nil, Nat.reduceAdd, Nat.reduceSub, Array.replicate_succ, Array.replicate_zero, List.push_toArray, List.append_toArray, List.nil_append, List.cons_append]
  by_cases h7 : N = 7
  · subst h7
    by_cases h8 : qs.length = 8
    · have HL := Hid.intro h8
      rw [h8]
      clear h8 hql hN
      gi_wp2_with (gi_at_make; refine stop ?_)
      unfold Stop
      obtain ⟨i38, hi38, hz38, hs38, hb38⟩ := info_parts t38_parts
      refine wpListIn_make_full _ rfl _ _ _ rfl w.heap.size 38 i38 _ 1 under94' hi38 hz38 hs38 _ _ _ _ 7 rfl rfl rfl rfl (by rw [hb38]; omega) (by unfold maxLen; omega) (Nat.le_refl _) ?_
      intro W4 hown hgrow
      obtain ⟨g, hg'⟩ : ∃ g, w.heap.size = g := ⟨_, rfl⟩
      have hA4 : ArrAt W4 g 7 fun _ => .slice none 0 0 := by
        rw [← hg']
        exact ArrAt.of_row hown fun i hi => by simp [madeCells, Value.cells, hi, Nat.mod_one]
      have HB4 : Hid (Below w.heap.size w W4) := (Below.refl _ w).grown hgrow (Nat.le_refl _) (fun _ h => by cases h)
      have hg : w.heap.size ≤ g := by omega
      have hlt4 := hA4.lt (by omega)
      have HR4 := Hid.intro (Rows7.start (Nat.lt_succ_self g) hlt4 hA4)
      rw [hg']
      clear hown hgrow hg' hA4 hlt4
      gi_wp2
      gi_loopw [6] (fun i wr => ∃ (k : Nat) (vs : Nat → Value), k ≤ 8 ∧ i = .int .i64 (k : Int) ∧ Hid (Below w.heap.size w wr) ∧ Hid (Rows7 g (g + 1) vs (nbL (qs.take k)) wr)) (fun i _ => 8 - (intOf i).toNat)
      case atStart => exact ⟨0, _, by omega, rfl, HB4.out, HR4.out⟩
      case round =>
        obtain ⟨k, vs, hk, rfl, HBk, HRk⟩ := hrel
        clear HB4 HR4
        by_cases hlt : k < 8
        · have hltq : k < qs.length := by have := HL.out; omega
          obtain ⟨a, rfl, ha, hc⟩ := HED.out (by omega)
          have g0 := (HBk.out.cell (p := a.add (k * 2)) (by rw [add_block]; exact ha)).trans (hc k hltq).1
          have g1 := (HBk.out.cell (p := a.add (k * 2 + 1)) (by rw [add_block]; exact ha)).trans (hc k hltq).2
          rw [← add_add_one] at g1
          obtain ⟨x, hx⟩ : ∃ x, (qs.getD k (0, 0)).1 = x := ⟨_, rfl⟩
          obtain ⟨y, hy⟩ : ∃ y, (qs.getD k (0, 0)).2 = y := ⟨_, rfl⟩
          have e : qs.getD k (0, 0) = qs[k] := by rw [List.getD_eq_getElem?_getD, List.getElem?_eq_getElem hltq]; rfl
          have hlt2 := HQ.out _ (List.getElem_mem hltq)
          have HNX := Hid.intro (rows_next HQ.out hltq)
          rw [hx, hy] at HNX
          rw [← e, hx, hy] at hlt2
          have hx7 : x < 7 := by omega
          have hy7 : y < 7 := by omega
          have hxy : ¬ y = x := by omega
          rw [hx] at g0
          rw [hy] at g1
          have cx0 : wr.cell? ⟨g, x, none⟩ = some (vs x) := (HRk.out.arr x hx7).1
          clear hc hx hy e hltq
          gi_wp2
          gi_region
          gi_wp2_with (gi_at_builtin; refine stop ?_)
          unfold Stop
          have hnx := nbL_le qs k x
          have hny := nbL_le qs k y
          have HRd : Hid (Rows7 g (g + 1) vs (nbL (qs.take k)) wr.drew) := HRk.out.below (drew_below wr)
          have hgs := HRk.out.hi
          refine wpListIn_append_own_at _ rfl _ _ 38 rfl (g + 1) 3 Tryd.t3 _ 1 8 Go.Eng.u38 t3_info t3_zero t3_size t3_bytes rfl (by decide) (vs x) _ _ rfl (World.ownsRow.alloc (HRd.out.row x hx7) _) ⟨wr.heap.size, 0, none⟩ 1 1 [.int .i64 (y : Int)] rfl rfl (num_new _ _ _) (fun u hu => by simp at hu; subst hu; rfl) (by unfold maxLen; simp; omega) (by simp; omega) (by simp [World.drew]; omega) ?_
          intro v2 w2 hown2 hgrow2 _ hat2
          obtain ⟨o2, cp2, hv2⟩ := ownsRow_form hown2
          obtain ⟨n2, hn2⟩ : ∃ n, ((nbL (qs.take k) x).map fun t : Nat => (t : Int)).length + 1 = n := ⟨_, rfl⟩
          rw [hn2] at hv2
          have HR2 := Hid.intro (HRd.out.append hx7 hown2 hgrow2 hat2)
          have HB2 := Hid.intro (HRd.out.under (v2 := v2) hx7 hg HBk.out.drew hgrow2)
          have hm2 := HRd.out.mid hx7 hgrow2
          have c2 := (hm2 x hx7).1
          have z2 := (hm2 x hx7).2
          have cy : (w2.setCell ⟨g, x, none⟩ v2).cell? ⟨g, y, none⟩ = some (vs y) := by
            have := (HR2.out.arr y hy7).1
            unfold putV7 at this
            rw [if_neg hxy] at this
            exact this
          subst hv2
          clear hown2 hgrow2 hat2 hm2 hn2
          gi_wp2_with (gi_at_builtin; refine stop ?_)
          unfold Stop
          have ey : putV7 vs x (.slice o2 n2 cp2) y = vs y := if_neg hxy
          have eN : putN7 (nbL (qs.take k)) x y y = nbL (qs.take k) y := if_neg hxy
          have hry := HR2.out.row y hy7
          rw [ey, eN] at hry
          have hgs3 := HR2.out.hi
          refine wpListIn_append_own_at _ rfl _ _ 38 rfl (g + 1) 3 Tryd.t3 _ 1 8 Go.Eng.u38 t3_info t3_zero t3_size t3_bytes rfl (by decide) (vs y) _ _ rfl (World.ownsRow.alloc hry _) ⟨w2.heap.size, 0, none⟩ 1 1 [.int .i64 (x : Int)] rfl rfl (by have := num_new (w2.setCell ⟨g, x, none⟩ (.slice o2 n2 cp2)) (x : Int) 3; rw [World.size_setCell] at this; exact this) (fun u hu => by simp at hu; subst hu; rfl) (by unfold maxLen; simp; omega) (by simp; omega) (by simp at hgs3 ⊢; omega) ?_
          intro v3 w3 hown3 hgrow3 _ hat3
          obtain ⟨o3, cp3, hv3⟩ := ownsRow_form hown3
          obtain ⟨n3, hn3⟩ : ∃ n, ((nbL (qs.take k) y).map fun t : Nat => (t : Int)).length + 1 = n := ⟨_, rfl⟩
          rw [hn3] at hv3
          rw [← ey] at hgrow3 hat3
          rw [← eN] at hown3
          have HR3 := Hid.intro (HR2.out.append hy7 hown3 hgrow3 hat3)
          have HB3 := Hid.intro (HR2.out.under (v2 := v3) hy7 hg HB2.out hgrow3)
          have hm3 := HR2.out.mid hy7 hgrow3
          have c3 := (hm3 y hy7).1
          have z3 := (hm3 y hy7).2
          subst hv3
          clear hown3 hgrow3 hat3 hm3 hn3 hry cy c2 z2
          gi_wp2
          rw [HNX.out] at HR3
          refine ⟨⟨k + 1, _, by omega, by go_num, HB3.out, HR3.out⟩, by simp [intOf]; omega⟩
        · have hk8 : k = 8 := by omega
          rw [hk8] at HRk
          obtain ⟨W5, hW5⟩ : ∃ W, W = wr := ⟨_, rfl⟩
          subst hW5
          have hall : nbL (qs.take 8) = nbL qs := by rw [List.take_of_length_le (by have := HL.out; omega)]
          rw [hall] at HRk
          have HLi : Hid (∀ v, v < 7 → LiesAt W5 (vs v) (nbL qs v)) := fun v hv => (HRk.out.row v hv).lies
          have HCe : Hid (ArrAt W5 g 7 vs) := HRk.out.arr
          have hgS : g < W5.heap.size := by have := HRk.out.hi; omega
          clear hall HRk hk8
          gi_wp2
          gi_loopw [9, 10] (fun v9 i wi => ∃ k : Nat, k ≤ 7 ∧ i = .int .i64 (k : Int) ∧ Hid (NumsAt wi W5.heap.size v9 ((three qs k).map fun t : Nat => (t : Int))) ∧ Hid (∀ i, i < k → (nbL qs i).length = 3 ∨ (nbL qs i).length = 2) ∧ Hid (Below W5.heap.size W5 wi)) (fun _ i _ => 7 - (intOf i).toNat)
          case atStart => exact ⟨0, by omega, rfl, World.ownsRow_nil _ _ _ _, Hid.intro (fun i hi => absurd hi (by omega)), Below.refl _ _⟩
          case round =>
            obtain ⟨m, hm, rfl, HT, HD, HBi⟩ := hrel
            by_cases hm7 : m < 7
            · obtain ⟨o, c, hv, hc⟩ := HLi.out m hm7
              have z0 : wr.cell? ⟨g, m, none⟩ = some (vs m) := (HBi.out.cell (p := ⟨g, m, none⟩) hgS).trans (HCe.out m hm7).1
              obtain ⟨n, hn⟩ : ∃ n, (nbL qs m).length = n := ⟨_, rfl⟩
              rw [hv, hn] at z0
              have HN := Hid.intro hn
              clear hv hc hn
              by_cases h3 : n = 3
              · subst h3
                have HX := Hid.intro (three_yes HN.out)
                have hl3 := three_len qs m
                have hzi := HBi.out.size
                gi_wp2_with (gi_at_builtin; refine stop ?_)
                unfold Stop
                refine wpListIn_append_own _ rfl _ _ 38 rfl W5.heap.size 3 Tryd.t3 _ 1 8 Go.Eng.u38 t3_info t3_zero t3_size t3_bytes rfl (by decide) _ _ _ rfl (World.ownsRow.alloc HT.out _) ⟨wr.heap.size, 0, none⟩ 1 1 [.int .i64 (m : Int)] rfl rfl (num_new _ _ _) (fun u hu => by simp at hu; subst hu; rfl) (by unfold maxLen; simp; omega) (by simp; omega) (by simp; omega) ?_
                intro v2 w2 hown2 hgrow2 _
                have HT2 : Hid (NumsAt w2 W5.heap.size v2 ((three qs (m + 1)).map fun t : Nat => (t : Int))) := by
                  rw [HX.out, List.map_append]
                  refine Hid.intro ?_
                  unfold NumsAt
                  rw [List.length_append, List.map_append]
                  exact hown2
                have HB2 := Hid.intro ((HBi.out.alloc hzi _).grown hgrow2 (by simp; omega) (fun m' h => (World.ownsRow.lt HT.out m' h).1))
                clear hown2 hgrow2
                gi_wp2
                refine ⟨⟨m + 1, by omega, by go_num, HT2, Hid.intro (fun i hi => ?_), HB2⟩, by simp [intOf]; omega⟩
                by_cases e : i = m
                · rw [e]; exact .inl HN.out
                · exact HD.out i (by omega)
              · have h3' : ¬ (n : Int) = 3 := by omega
                by_cases h2 : n = 2
                · subst h2
                  have HX := Hid.intro (three_no (qs := qs) (k := m) (by rw [HN.out]; omega))
                  gi_wp2
                  refine ⟨⟨m + 1, by omega, by go_num, by rw [HX.out]; exact HT, Hid.intro (fun i hi => ?_), HBi⟩, by simp [intOf]; omega⟩
                  by_cases e : i = m
                  · rw [e]; exact .inr HN.out
                  · exact HD.out i (by omega)
                · have h2' : ¬ (n : Int) = 2 := by omega
                  gi_wp2
                  all_goals (first | go_returns | go_ret | go_end0)
                  exact ⟨Says.no (fun ⟨_, _, hh, _⟩ => by have := hh m hm7; have := HN.out; omega) rfl, HBk.out.trans (HBi.out.mono HBk.out.size)⟩
            · have hm77 : m = 7 := by omega
              rw [hm77] at HT HD
              have hT2 := three_len qs 7
              obtain ⟨o9, c9, h9, hc9⟩ := HT.out.lies
              subst h9
              have HC9 := Hid.intro hc9
              clear hc9
              by_cases hT : (three qs 7).length = 2
              case neg =>
                obtain ⟨n9, hn9⟩ : ∃ n, (three qs 7).length = n := ⟨_, rfl⟩
                have HN9 := Hid.intro hn9
                rw [hn9] at hT ⊢
                have hT' : ¬ (n9 : Int) = 2 := by omega
                clear hn9
                gi_wp2
                all_goals (first | go_returns | go_ret | go_end0)
                exact ⟨Says.no (fun ⟨_, _, _, s, t, hst, _⟩ => hT (by
                  have : three qs 7 = [s, t] := hst
                  have h2 := HN9.out
                  rw [this] at h2
                  exact h2.symm)) rfl, HBk.out.trans (HBi.out.mono HBk.out.size)⟩
              case pos =>
                obtain ⟨s, t, hst⟩ : ∃ s t, three qs 7 = [s, t] := by
                  match h : three qs 7, hT with
                  | [s, t], _ => exact ⟨s, t, rfl⟩
                have hin : ∀ i, i ∈ [s, t] ↔ i < 7 ∧ (nbL qs i).length = 3 := fun i => by
                  rw [← hst]; unfold three; rw [List.mem_filter, List.mem_range, decide_eq_true_eq]
                have hs7 := ((hin s).1 (by simp)).1
                have hs3 := ((hin s).1 (by simp)).2
                have ht7 := ((hin t).1 (by simp)).1
                have HIN := Hid.intro hin
                have HST := Hid.intro hst
                rw [hst] at HC9
                obtain ⟨a9, rfl, ha9, hca⟩ := HC9.out (by simp)
                have q0 : wr.cell? (a9.add 0) = some (.int .i64 (s : Int)) := hca 0 (by simp)
                have q1 : wr.cell? (a9.add 1) = some (.int .i64 (t : Int)) := hca 1 (by simp)
                have q0b : wr.cell? a9 = some (.int .i64 (s : Int)) := q0
                have q1b : wr.cell? ⟨a9.block, a9.off + 1, none⟩ = some (.int .i64 (t : Int)) := by rw [← q1]; rfl
                rw [hst, show [s, t].length = 2 from rfl]
                obtain ⟨os, cs, hvs, hcs⟩ := HLi.out s hs7
                rw [hs3] at hvs hcs
                obtain ⟨bs, rfl, hbs, hcs⟩ := hcs (by omega)
                have HCS := Hid.intro hcs
                have q2 : wr.cell? ⟨g, s, none⟩ = some (vs s) := (HBi.out.cell (p := ⟨g, s, none⟩) hgS).trans (HCe.out s hs7).1
                rw [hvs] at q2
                have HS3 := Hid.intro hs3
                obtain ⟨W6, hW6⟩ : ∃ W, W = wr := ⟨_, rfl⟩
                subst hW6
                have hg6 : g < W6.heap.size := Nat.lt_of_lt_of_le hgS HBi.out.size
                have hb6 : bs.block < W6.heap.size := Nat.lt_of_lt_of_le hbs HBi.out.size
                have Q0 := Hid.intro q0
                have Q1 := Hid.intro q1
                have Q2 := Hid.intro q2
                clear hca hcs hvs hin hst hs3 hT hT2 q0 q1 q0b q1b q2
                show Code.wpIn _ _ _ _ _ _ _
                gi_wp2
                gi_loopw [11, 12] (fun ones i wi => ∃ j c : Nat, j ≤ 3 ∧ i = .int .i64 (j : Int) ∧ ones = .int .i64 (c : Int) ∧ Hid ((((nbL qs s).take j).filter fun k => decide (t ∈ nbL qs k)).length = c) ∧ Hid (∀ k ∈ (nbL qs s).take j, k ≠ t) ∧ Hid (Below W6.heap.size W6 wi)) (fun _ i _ => 3 - (intOf i).toNat)
                case atStart => exact ⟨0, 0, by omega, rfl, rfl, Hid.intro (by simp), Hid.intro (fun k hk => by simp at hk), Below.refl _ _⟩
                case round =>
                  obtain ⟨j, c, hj, rfl, rfl, HO, HK, HB6⟩ := hrel
                  have HBi := Hid.intro (HBi.out.trans (HB6.out.mono HBi.out.size))
                  have q0 := (HB6.out.cell (p := a9.add 0) (by rw [add_block]; exact ha9)).trans Q0.out
                  have q1 := (HB6.out.cell (p := a9.add 1) (by rw [add_block]; exact ha9)).trans Q1.out
                  have q2 := (HB6.out.cell (p := ⟨g, s, none⟩) hg6).trans Q2.out
                  have q0b : wr.cell? a9 = some (.int .i64 (s : Int)) := q0
                  have q1b : wr.cell? ⟨a9.block, a9.off + 1, none⟩ = some (.int .i64 (t : Int)) := by rw [← q1]; rfl
                  by_cases hj3 : j < 3
                  · obtain ⟨u, hu⟩ : ∃ u, (nbL qs s).getD j 0 = u := ⟨_, rfl⟩
                    have hus : u ∈ nbL qs s := by rw [← hu]; exact getD_mem (by rw [HS3.out]; exact hj3)
                    have had := adj_ne HQ.out ((nbL_mem HQ.out).1 hus)
                    have hu7 : u < 7 := had.2.1
                    have q3 : wr.cell? (bs.add j) = some (.int .i64 (u : Int)) := by rw [← hu]; exact (HBi.out.cell (p := bs.add j) (by rw [add_block]; exact hbs)).trans (HCS.out j hj3)
                    have HTK : Hid ((nbL qs s).take (j + 1) = (nbL qs s).take j ++ [u]) := by
                      have hlt : j < (nbL qs s).length := by rw [HS3.out]; exact hj3
                      rw [List.take_succ_eq_append_getElem hlt]
                      rw [List.getD_eq_getElem?_getD, List.getElem?_eq_getElem hlt] at hu
                      have hu : (nbL qs s)[j] = u := hu
                      exact Hid.intro (by rw [hu])
                    have HUS := Hid.intro hus
                    obtain ⟨ou, cu, hvu, hcu⟩ := HLi.out u hu7
                    have q4 : wr.cell? ⟨g, u, none⟩ = some (vs u) := (HBi.out.cell (p := ⟨g, u, none⟩) hgS).trans (HCe.out u hu7).1
                    have hsu := had.2.2
                    clear hu hus had
                    by_cases hut : u = t
                    · have hut' : (u : Int) = (t : Int) := by omega
                      gi_wp2
                      all_goals (first | go_returns | go_ret | go_end0)
                      refine ⟨Says.no (fun ⟨_, _, _, s', t', hst', hno, _⟩ => ?_) rfl, HBk.out.trans (HBi.out.mono HBk.out.size)⟩
                      have e3 : three qs 7 = [s', t'] := hst'
                      rw [HST.out] at e3
                      injection e3 with e4 e5
                      injection e5 with e5 _
                      rw [← e4, ← e5, ← hut] at hno
                      exact hno HUS.out
                    · have hut' : ¬ (u : Int) = (t : Int) := by omega
                      have hd2 : (nbL qs u).length = 2 := by
                        rcases HD.out u hu7 with h | h
                        · have := (HIN.out u).2 ⟨hu7, h⟩
                          simp at this
                          omega
                        · exact h
                      have HD2 := Hid.intro hd2
                      rw [hd2] at hvu hcu
                      rw [hvu] at q4
                      obtain ⟨bu, rfl, hbu, hcu⟩ := hcu (by omega)
                      obtain ⟨p, hp⟩ : ∃ p, (nbL qs u).getD 0 0 = p := ⟨_, rfl⟩
                      obtain ⟨r, hr⟩ : ∃ r, (nbL qs u).getD 1 0 = r := ⟨_, rfl⟩
                      have q5 : wr.cell? (bu.add 0) = some (.int .i64 (p : Int)) := by rw [← hp]; exact (HBi.out.cell (p := bu.add 0) (by rw [add_block]; exact hbu)).trans (hcu 0 (by omega))
                      have q6 : wr.cell? (bu.add 1) = some (.int .i64 (r : Int)) := by rw [← hr]; exact (HBi.out.cell (p := bu.add 1) (by rw [add_block]; exact hbu)).trans (hcu 1 (by omega))
                      have q5b : wr.cell? bu = some (.int .i64 (p : Int)) := q5
                      have q6b : wr.cell? ⟨bu.block, bu.off + 1, none⟩ = some (.int .i64 (r : Int)) := by rw [← q6]; rfl
                      have HME : Hid (t ∈ nbL qs u ↔ p = t ∨ r = t) := by
                        have : nbL qs u = [p, r] := by
                          match h : nbL qs u, hd2 with
                          | [x, y], _ =>
                            rw [h] at hp hr
                            have hp : x = p := hp
                            have hr : y = r := hr
                            rw [hp, hr]
                        rw [this]
                        refine Hid.intro ?_
                        simp [eq_comm]
                      clear hcu hp hr hvu hd2
                      have HKK : Hid (∀ k ∈ (nbL qs s).take (j + 1), k ≠ t) := Hid.intro (fun k hk => by
                        rw [HTK.out] at hk
                        rcases List.mem_append.1 hk with hk | hk
                        · exact HK.out k hk
                        · simp at hk; rw [hk]; exact hut)
                      have HY : t ∈ nbL qs u → Hid ((((nbL qs s).take (j + 1)).filter fun k => decide (t ∈ nbL qs k)).length = c + 1) := fun h => by
                        rw [HTK.out, List.filter_append, List.length_append, HO.out]
                        exact Hid.intro (by simp [h])
                      have HNo : t ∉ nbL qs u → Hid ((((nbL qs s).take (j + 1)).filter fun k => decide (t ∈ nbL qs k)).length = c) := fun h => by
                        rw [HTK.out, List.filter_append, List.length_append, HO.out]
                        exact Hid.intro (by simp [h])
                      have hc3 : c ≤ 3 := by
                        have h1 := List.length_filter_le (fun k => decide (t ∈ nbL qs k)) ((nbL qs s).take j)
                        have h2 := List.length_take_le j (nbL qs s)
                        have := HO.out
                        omega
                      gi_wp2
                      by_cases hpt : p = t
                      · have HYY := HY (HME.out.2 (.inl hpt))
                        have hpt' : decide ((p : Int) = (t : Int)) = true := by simp [hpt]
                        clear HY HNo
                        gi_quiet (fail)
                        gi_wp2
                        exact ⟨⟨j + 1, c + 1, by omega, by go_num, by go_num, HYY, HKK, HB6.out.trans ((drewN_below _ _).mono HB6.out.size)⟩, by simp [intOf]; omega⟩
                      · have hpt' : decide ((p : Int) = (t : Int)) = false := by simp; omega
                        have hpt2 : ((p : Int) == (t : Int)) = false := by simp; omega
                        by_cases hrt : r = t
                        · have HYY := HY (HME.out.2 (.inr hrt))
                          have hrt' : decide ((r : Int) = (t : Int)) = true := by simp [hrt]
                          have hrt2 : ((r : Int) == (t : Int)) = true := by simp [hrt]
                          clear HY HNo
                          gi_quiet (fail)
                          gi_wp2
                          exact ⟨⟨j + 1, c + 1, by omega, by go_num, by go_num, HYY, HKK, HB6.out.trans ((drewN_below _ _).mono HB6.out.size)⟩, by simp [intOf]; omega⟩
                        · have HYY := HNo (fun h => by rcases HME.out.1 h with h | h; exact hpt h; exact hrt h)
                          have hrt' : decide ((r : Int) = (t : Int)) = false := by simp; omega
                          have hrt2 : ((r : Int) == (t : Int)) = false := by simp; omega
                          clear HY HNo
                          gi_quiet (fail)
                          gi_wp2
                          exact ⟨⟨j + 1, c, by omega, by go_num, rfl, HYY, HKK, HB6.out.trans ((drewN_below _ _).mono HB6.out.size)⟩, by simp [intOf]; omega⟩
                  · have hj33 : j = 3 := by omega
                    have e3 : (nbL qs s).take j = nbL qs s := List.take_of_length_le (by rw [HS3.out]; omega)
                    rw [e3] at HO HK
                    have HS : Hid (SevenP 7 qs ↔ c = 1) := by
                      refine Hid.intro ⟨fun ⟨_, _, _, s', t', hst', _, hc1⟩ => ?_, fun hc1 => ⟨rfl, HL.out, HD.out, s, t, HST.out, fun hm => HK.out t hm rfl, HO.out.trans hc1⟩⟩
                      have e3 : three qs 7 = [s', t'] := hst'
                      rw [HST.out] at e3
                      injection e3 with e4 e5
                      injection e5 with e5 _
                      rw [← e4, ← e5, HO.out] at hc1
                      exact hc1
                    clear e3
                    by_cases hc1 : c = 1
                    · have hc1' : (c : Int) = 1 := by omega
                      gi_wp2
                      all_goals (first | go_returns | go_ret | go_end0)
                      exact ⟨Says.yes (HS.out.2 hc1) (by simp), HBk.out.trans (HBi.out.mono HBk.out.size)⟩
                    · have hc1' : ¬ (c : Int) = 1 := by omega
                      gi_wp2
                      all_goals (first | go_returns | go_ret | go_end0)
                      exact ⟨Says.no (fun h => hc1 (HS.out.1 h)) (by simp; omega), HBk.out.trans (HBi.out.mono HBk.out.size)⟩
    · have h8' : ¬ (qs.length : Int) = 8 := by omega
      gi_wp2
      all_goals (first | go_returns | go_ret | go_end0)
      exact ⟨Says.no (fun h => h8 h.2.1) rfl, Below.refl _ _⟩
  · have h7' : ¬ (N : Int) = 7 := by omega
    gi_wp2
    all_goals (first | go_returns | go_ret | go_end0)
    exact ⟨Says.no (fun h => h7 h.1) rfl, Below.refl _ _⟩
end Go.Eng
