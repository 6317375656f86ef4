/-
  What 'Sides' of the program answers.
  Conditions: the pairs are the edges of a board; their cells are known.
-/
import Derived.Test.YtjcmalmcijpnnaaDoorBrdE
import Derived.Test.YtjcmalmcijpnnaaDoorChkO
namespace Go.Eng
open Go.RowKit Go.Proofs Go.Proofs.YtjcmalmcijpnnaaDoor

def sideCell (s : Nat × Nat) : Nat → Value := fun i => if i = 0 then .int .i64 ((s.1 : Nat) : Int) else .int .i64 ((s.2 : Nat) : Int)
def valW (w : World) (g i : Nat) : Int := match w.cell? ⟨g, i, none⟩ with | some (.int _ z) => z | _ => 0
def blkOf : Value → Nat | .pointer (some a) => a.block | _ => 0
def sideM (g : Nat) (p : Value) (w : World) : Nat :=
  if valW w (blkOf p) 0 = valW w g 0 ∧ valW w (blkOf p) 1 = valW w g 1 then 0 else 1030 - (valW w g 0 + valW w g 1).toNat
theorem valW_side {w : World} {g : Nat} {s : Nat × Nat} (h : ArrAt w g 2 (sideCell s)) : valW w g 0 = s.1 ∧ valW w g 1 = s.2 := by
  have h0 := (h 0 (by omega)).1
  have h1 := (h 1 (by omega)).1
  unfold valW
  rw [h0, h1]
  exact ⟨rfl, rfl⟩

def SidesSaysOK (A : Nat → Nat → Prop) (e : Ending) : Prop := ∃ (l : Nat) (ok : Bool), SidesIs A l ok ∧ e = .returned (.tuple #[.int .i64 (l : Int), .bool ok, .int .i64 0])

set_option maxRecDepth 100000 in
set_option maxHeartbeats 8000000 in
theorem sides_calls (w : World) (N : Nat) (hN : 2 ≤ N ∧ N ≤ 9) (v : Value) (ps : List (Int × Int)) (hv : PairsAt w v ps) (hl : ps.length ≤ 1000) (hb : IsBoard N ps) :
    CallsIn Fence.wide 0 Tryd.prog 36 #[.int .i64 (N : Int), v] w fun e w' => SidesSaysOK (Adj (nats ps)) e ∧ Below w.heap.size w w' := by
  have HC := Hid.intro (open_calls w N v ps hv hl)
  have HB0 : Hid (BoardErr N ps 0) := .inr (.inr ⟨by omega, by simpa using hb, rfl⟩)
  have hm := nats_mem hb.1
  have HNX := Hid.intro (nxs_bit (qs := nats ps) (fun q hq => (hm q hq).1))
  have HN9 := Hid.intro (nxs_lt (qs := nats ps) (fun q hq => by have := hm q hq; omega))
  have HAd : Hid (∀ a b, Adj (nats ps) a b → a < N ∧ b < N) := by
    rintro a b (h | h)
    · have := hm _ h; simp at this; omega
    · have := hm _ h; simp at this; omega
  clear hv hl hb hm
  refine callsIn_of_wp Tryd.func36 rfl trivial ?_ rfl
  simp only [Tryd.ntmps36, List.size_toArray, List.length_cons, List.length_nil, Nat.reduceAdd, Nat.reduceSub, Array.replicate_succ, Array.replicate_zero, List.push_toArray, List.append_toArray, List.nil_append, List.cons_append]
  gi_wp2_with (gi_at_call 49; refine HC.out.mono ?_; rintro e w1 ⟨hB, hpost⟩; have HB := Hid.intro hB; clear hB; rcases hpost with ⟨c, hc, herr, rfl⟩ | ⟨herr, g, rfl, hg, hA⟩; (exfalso; exact hc (herr.unique HB0.out)))
  have hba : ArrAt w1 g 10 (boardCell N (nxs (nats ps))) := by simpa using hA
  obtain ⟨nx, hnx⟩ : ∃ nx, nxs (nats ps) = nx := ⟨_, rfl⟩
  rw [hnx] at hba HNX HN9
  have hgl : g < w1.heap.size := hba.lt (by omega)
  have HBA := Hid.intro hba
  clear hA herr hnx hba
  gi_wp2
  obtain ⟨G, hG⟩ : ∃ G, w1.heap.size = G := ⟨_, rfl⟩
  obtain ⟨W0, hW0⟩ : ∃ W0, W0 = (w1.alloc (.cells #[.int .i64 1, .int .i64 0] 75)).alloc (.cells #[.int .i64 0, .int .i64 0] 75) := ⟨_, rfl⟩
  have HB1 : Hid (Below G w1 W0) := by rw [hW0, ← hG]; exact ((Below.refl _ _).alloc (Nat.le_refl _) _).alloc (by simp) _
  have HS0 : Hid (ArrAt W0 G 2 (sideCell (1, 0))) := by
    rw [hW0, ← hG]
    refine (ArrAt.new w1 _ _ fun i hi => ?_).alloc (by simp) _
    have : i = 0 ∨ i = 1 := by omega
    rcases this with rfl | rfl <;> rfl
  have HL0 : Hid (ArrAt W0 (G + 1) 2 (sideCell (0, 0))) := by
    have e : G + 1 = (w1.alloc (.cells #[.int .i64 1, .int .i64 0] 75)).heap.size := by simp [hG]
    rw [hW0, e]
    refine ArrAt.new _ _ _ fun i hi => ?_
    have : i = 0 ∨ i = 1 := by omega
    rcases this with rfl | rfl <;> rfl
  rw [← hW0, hG]
  rw [hG] at hgl
  have HG := Hid.intro hG
  clear hW0 hG
  gi_loopw [10] (fun q wr => ∃ (p : Nat) (s l : Nat × Nat), q = .pointer (some ⟨p, 0, none⟩) ∧ G < p ∧ Hid (Below G w1 wr) ∧ Hid (ArrAt wr G 2 (sideCell s)) ∧ Hid (ArrAt wr p 2 (sideCell l)) ∧ Hid (POk (Adj (nats ps)) s) ∧ Hid (l = s → pPass nx s N = s)) (fun q wr => sideM G q wr)
  case atStart => exact ⟨G + 1, (1, 0), (0, 0), rfl, by omega, HB1.out, HS0.out, HL0.out, POk.start _, fun h => by cases h⟩
  case round =>
    obtain ⟨p, ⟨s1, s2⟩, ⟨l1, l2⟩, rfl, hp, HBr, HS, HL, HP, HF⟩ := hrel
    clear HB1 HS0 HL0
    have hpz : p < wr.heap.size := HL.out.lt (by omega)
    have a0 : wr.cell? ⟨G, 0, none⟩ = some (.int .i64 (s1 : Int)) := (HS.out 0 (by omega)).1
    have a1 : wr.cell? ⟨G, 1, none⟩ = some (.int .i64 (s2 : Int)) := (HS.out 1 (by omega)).1
    have b0 : wr.cell? ⟨p, 0, none⟩ = some (.int .i64 (l1 : Int)) := (HL.out 0 (by omega)).1
    have b1 : wr.cell? ⟨p, 1, none⟩ = some (.int .i64 (l2 : Int)) := (HL.out 1 (by omega)).1
    have c0 := (HL.out 0 (by omega)).2
    have c1 := (HL.out 1 (by omega)).2
    have hrun := neq75_run (.tmp 24) (.tmp 25) l1 l2 s1 s2 wr
    by_cases hls : l1 = s1 ∧ l2 = s2
    · have e : (!(decide ((l1 : Int) = (s1 : Int)) && decide ((l2 : Int) = (s2 : Int)))) = false := by simp [hls.1, hls.2]
      rw [e] at hrun
      have hsp : s1 < 512 ∧ s2 < 512 := HP.out.small
      have hand := Hid.intro (and_nat hsp.1 hsp.2)
      have hlaw := Hid.intro (pPass_law HNX.out HAd.out HP.out (HF.out (Prod.ext hls.1 hls.2)))
      have HRUN := Hid.intro hrun
      clear hls hsp e hrun
      gi_wp2_with (refine wpListIn_bin_run _ rfl .neq 75 _ (.tmp 24) (.tmp 25) rfl rfl rfl HRUN.out ?_)
      all_goals (first | go_returns | go_ret | go_end0)
      · have h : (bits BinOp.and IntKind.i64 (s1 : Int) (s2 : Int) != 0) = true := by assumption
        have hz : ¬ (s1 &&& s2 = 0) := by
          rw [hand.out] at h
          simp at h
          exact h
        have hr := hlaw.out
        rw [if_neg hz, decide_eq_false hz] at hr
        exact ⟨⟨0, false, hr, rfl⟩, HB.out.trans ((HG.out ▸ HBr.out : Below w1.heap.size w1 wr).mono HB.out.size)⟩
      · have h : (bits BinOp.and IntKind.i64 (s1 : Int) (s2 : Int) != 0) = false := by assumption
        have hz : s1 &&& s2 = 0 := by
          rw [hand.out] at h
          simp at h
          exact h
        have hr := hlaw.out
        rw [if_pos hz, decide_eq_true hz] at hr
        exact ⟨⟨_, true, hr, rfl⟩, HB.out.trans ((HG.out ▸ HBr.out : Below w1.heap.size w1 wr).mono HB.out.size)⟩
    · have e : (!(decide ((l1 : Int) = (s1 : Int)) && decide ((l2 : Int) = (s2 : Int)))) = true := by
        simp
        omega
      rw [e] at hrun
      have HRUN := Hid.intro hrun
      have HLS := Hid.intro hls
      clear hls e hrun
      gi_wp2_with (refine wpListIn_bin_run _ rfl .neq 75 _ (.tmp 24) (.tmp 25) rfl rfl rfl HRUN.out ?_)
      obtain ⟨W1, hW1⟩ : ∃ W1, W1 = (wr.setCell ⟨p, 0, none⟩ (.int .i64 (s1 : Int))).setCell ⟨p, 1, none⟩ (.int .i64 (s2 : Int)) := ⟨_, rfl⟩
      rw [← hW1]
      have HBw : Hid (Below G w1 W1) := by rw [hW1]; exact (HBr.out.setCell (p := ⟨p, 0, none⟩) (by show G ≤ p; omega) _).setCell (p := ⟨p, 1, none⟩) (by show G ≤ p; omega) _
      have HSw : Hid (ArrAt W1 G 2 (sideCell (pPass nx (s1, s2) 0))) := by rw [hW1]; exact (HS.out.far (p := ⟨p, 0, none⟩) (by show p ≠ G; omega) _).far (p := ⟨p, 1, none⟩) (by show p ≠ G; omega) _
      have HLw : Hid (ArrAt W1 p 2 (sideCell (s1, s2))) := by
        rw [hW1]
        refine ((HL.out.set (i := 0) (by omega) (.int .i64 (s1 : Int))).set (i := 1) (by omega) (.int .i64 (s2 : Int))).congr fun j hj => ?_
        have : j = 0 ∨ j = 1 := by omega
        rcases this with rfl | rfl <;> rfl
      have HM : Hid (sideM G (.pointer (some ⟨p, 0, none⟩)) wr = 1030 - (s1 + s2)) := by
        obtain ⟨m0, m1⟩ := valW_side HS.out
        obtain ⟨n0, n1⟩ := valW_side HL.out
        show (if valW wr p 0 = valW wr G 0 ∧ valW wr p 1 = valW wr G 1 then 0 else 1030 - (valW wr G 0 + valW wr G 1).toNat) = _
        rw [m0, m1, n0, n1]
        have hls := HLS.out
        rw [if_neg (by show ¬ ((l1 : Int) = (s1 : Int) ∧ (l2 : Int) = (s2 : Int)); omega)]
        show 1030 - (((s1 : Nat) : Int) + ((s2 : Nat) : Int)).toNat = _
        omega
      clear hW1 a0 a1 b0 b1 c0 c1 HS HL HBr hpz
      gi_loopw [29] (fun i wr' => ∃ i' : Nat, i' ≤ N ∧ i = .int .i64 (i' : Int) ∧ Hid (Below G w1 wr') ∧ Hid (ArrAt wr' G 2 (sideCell (pPass nx (s1, s2) i'))) ∧ Hid (ArrAt wr' p 2 (sideCell (s1, s2)))) (fun i _ => N - (intOf i).toNat)
      case atStart => exact ⟨0, by omega, rfl, HBw.out, HSw.out, HLw.out⟩
      case round =>
        clear HBw HSw HLw
        obtain ⟨i, hi, rfl, HBi, HSi, HLi⟩ := hrel
        obtain ⟨⟨x, y⟩, hs⟩ : ∃ s, pPass nx (s1, s2) i = s := ⟨_, rfl⟩
        have hok := HP.out.pass (fun i j => (HNX.out i j).1) HN9.out i
        rw [hs] at hok HSi
        have HOK := Hid.intro hok
        have HSS := Hid.intro hs
        have hpz : p < wr.heap.size := HLi.out.lt (by omega)
        have a0 : wr.cell? ⟨G, 0, none⟩ = some (.int .i64 (x : Int)) := (HSi.out 0 (by omega)).1
        have a1 : wr.cell? ⟨G, 1, none⟩ = some (.int .i64 (y : Int)) := (HSi.out 1 (by omega)).1
        have d0 := (HSi.out 0 (by omega)).2
        have d1 := (HSi.out 1 (by omega)).2
        clear hok hs
        by_cases hiN : i < N
        · have hbd := HBA.out.board
          have hn0 := (HBi.out.cell (p := ⟨g, 1 + i, none⟩) hgl).trans (hbd.next i (by omega))
          have hx9 : x < 512 := HOK.out.small.1
          have hy9 : y < 512 := HOK.out.small.2
          have hb1 := own_bit1 hx9 (show i < 9 by omega)
          have ho1 := or_nat hy9 (HN9.out i)
          have hno := HN9.out i
          clear hbd
          have hcase : (x.testBit i = true ∧ Hid (pZero nx (x, y) i = (x, y ||| nx i))) ∨ (x.testBit i = false ∧ Hid (pZero nx (x, y) i = (x, y))) := by
            cases hbx : x.testBit i with
            | true => exact .inl ⟨rfl, by unfold pZero; exact if_pos hbx⟩
            | false => exact .inr ⟨rfl, by unfold pZero; exact if_neg (by simp [hbx])⟩
          have key : ∃ (y2 : Nat), Hid (pZero nx (x, y) i = (x, y2)) ∧ y2 < 512 := by
            rcases hcase with ⟨_, h⟩ | ⟨_, h⟩
            · exact ⟨_, h, or_lt9 hy9 hno⟩
            · exact ⟨_, h, hy9⟩
          clear key
          gi_wp2
          refine wpIn_loop_rounds 3 ?_
          rw [roundsIn_succ]
          rcases hcase with ⟨hbx, HZ⟩ | ⟨hbx, HZ⟩
          · rw [hbx] at hb1
            gi_wp2
            gi_region
            gi_wp2
            obtain ⟨W2, hW2⟩ : ∃ W2, W2 = (wr.setCell ⟨G, 1, none⟩ (.int .i64 ((y ||| nx i : Nat) : Int))).drew := ⟨_, rfl⟩
            rw [← hW2]
            have HB2 : Hid (Below G w1 W2) := by rw [hW2]; exact (HBi.out.setCell (p := ⟨G, 1, none⟩) (Nat.le_refl _) _).drew
            have HS2 : Hid (ArrAt W2 G 2 (sideCell (x, y ||| nx i))) := by
              rw [hW2]
              refine ArrAt.congr (HSi.out.set (i := 1) (by omega) (.int .i64 ((y ||| nx i : Nat) : Int))) fun j hj => ?_
              have : j = 0 ∨ j = 1 := by omega
              rcases this with rfl | rfl <;> rfl
            have HL2 : Hid (ArrAt W2 p 2 (sideCell (s1, s2))) := by rw [hW2]; exact HLi.out.far (p := ⟨G, 1, none⟩) (by show G ≠ p; omega) _
            have hq9 : y ||| nx i < 512 := or_lt9 hy9 hno
            have HQ9 := Hid.intro hq9
            clear hW2 a0 a1 d0 d1 hb1 ho1 hn0 hq9 HBi HSi HLi
            obtain ⟨Y2, hY2⟩ : ∃ Y2, y ||| nx i = Y2 := ⟨_, rfl⟩
            rw [hY2] at HS2 HQ9 HZ
            have a0 : W2.cell? ⟨G, 0, none⟩ = some (.int .i64 (x : Int)) := (HS2.out 0 (by omega)).1
            have a1 : W2.cell? ⟨G, 1, none⟩ = some (.int .i64 ((Y2 : Nat) : Int)) := (HS2.out 1 (by omega)).1
            have d0 := (HS2.out 0 (by omega)).2
            have d1 := (HS2.out 1 (by omega)).2
            have hn0 := (HB2.out.cell (p := ⟨g, 1 + i, none⟩) hgl).trans (HBA.out.board.next i (by omega))
            have hb2 := own_bit1 HQ9.out (show i < 9 by omega)
            have ho2 := or_nat hx9 hno
            cases hby : Nat.testBit Y2 i with
            | true =>
              rw [hby] at hb2
              have HO : Hid (pPass nx (s1, s2) (i + 1) = (x ||| nx i, Y2)) := by
                show pOne nx (pZero nx (pPass nx (s1, s2) i) i) i = _
                rw [HSS.out, HZ.out]
                exact if_pos hby
              clear hby
              rw [roundsIn_succ]
              gi_wp2
              gi_region
              gi_wp2
              rw [roundsIn_succ]
              gi_wp2
              refine ⟨⟨i + 1, by omega, by go_num, (HB2.out.setCell (p := ⟨G, 0, none⟩) (Nat.le_refl _) _).drew, ?_, HL2.out.far (p := ⟨G, 0, none⟩) (by show G ≠ p; omega) _⟩, by simp [intOf]; omega⟩
              rw [HO.out]
              refine ArrAt.congr (HS2.out.set (i := 0) (by omega) (.int .i64 ((x ||| nx i : Nat) : Int))) fun j hj => ?_
              have : j = 0 ∨ j = 1 := by omega
              rcases this with rfl | rfl <;> rfl
            | false =>
              rw [hby] at hb2
              have HO : Hid (pPass nx (s1, s2) (i + 1) = (x, Y2)) := by
                show pOne nx (pZero nx (pPass nx (s1, s2) i) i) i = _
                rw [HSS.out, HZ.out]
                exact if_neg (by simp [hby])
              clear hby
              rw [roundsIn_succ]
              gi_wp2
              rw [roundsIn_succ]
              gi_wp2
              exact ⟨⟨i + 1, by omega, by go_num, HB2.out, by rw [HO.out]; exact HS2.out, HL2.out⟩, by simp [intOf]; omega⟩
          · rw [hbx] at hb1
            gi_wp2
            have HB2 := HBi
            have HS2 := HSi
            have HL2 := HLi
            have HQ9 := Hid.intro hy9
            clear a0 a1 d0 d1 hb1 ho1 hn0 HBi HSi HLi
            have a0 : wr.cell? ⟨G, 0, none⟩ = some (.int .i64 (x : Int)) := (HS2.out 0 (by omega)).1
            have a1 : wr.cell? ⟨G, 1, none⟩ = some (.int .i64 ((y : Nat) : Int)) := (HS2.out 1 (by omega)).1
            have d0 := (HS2.out 0 (by omega)).2
            have d1 := (HS2.out 1 (by omega)).2
            have hn0 := (HB2.out.cell (p := ⟨g, 1 + i, none⟩) hgl).trans (HBA.out.board.next i (by omega))
            have hb2 := own_bit1 HQ9.out (show i < 9 by omega)
            have ho2 := or_nat hx9 hno
            cases hby : Nat.testBit y i with
            | true =>
              rw [hby] at hb2
              have HO : Hid (pPass nx (s1, s2) (i + 1) = (x ||| nx i, y)) := by
                show pOne nx (pZero nx (pPass nx (s1, s2) i) i) i = _
                rw [HSS.out, HZ.out]
                exact if_pos hby
              clear hby
              rw [roundsIn_succ]
              gi_wp2
              gi_region
              gi_wp2
              rw [roundsIn_succ]
              gi_wp2
              refine ⟨⟨i + 1, by omega, by go_num, (HB2.out.setCell (p := ⟨G, 0, none⟩) (Nat.le_refl _) _).drew, ?_, HL2.out.far (p := ⟨G, 0, none⟩) (by show G ≠ p; omega) _⟩, by simp [intOf]; omega⟩
              rw [HO.out]
              refine ArrAt.congr (HS2.out.set (i := 0) (by omega) (.int .i64 ((x ||| nx i : Nat) : Int))) fun j hj => ?_
              have : j = 0 ∨ j = 1 := by omega
              rcases this with rfl | rfl <;> rfl
            | false =>
              rw [hby] at hb2
              have HO : Hid (pPass nx (s1, s2) (i + 1) = (x, y)) := by
                show pOne nx (pZero nx (pPass nx (s1, s2) i) i) i = _
                rw [HSS.out, HZ.out]
                exact if_neg (by simp [hby])
              clear hby
              rw [roundsIn_succ]
              gi_wp2
              rw [roundsIn_succ]
              gi_wp2
              exact ⟨⟨i + 1, by omega, by go_num, HB2.out, by rw [HO.out]; exact HS2.out, HL2.out⟩, by simp [intOf]; omega⟩
        · have e0 : wr.cell? ⟨p, 0, none⟩ = some (.int .i64 (s1 : Int)) := (HLi.out 0 (by omega)).1
          have e1 : wr.cell? ⟨p, 1, none⟩ = some (.int .i64 (s2 : Int)) := (HLi.out 1 (by omega)).1
          gi_wp2
          have hin : i = N := by omega
          subst hin
          have hsz : (wr.alloc (.cells #[.int .i64 (s1 : Int), .int .i64 (s2 : Int)] 75)).heap.size = wr.heap.size + 1 := by simp
          have hzz := HBi.out.size
          have hGG := HG.out
          have hnewL : ArrAt (wr.alloc (.cells #[.int .i64 (s1 : Int), .int .i64 (s2 : Int)] 75)) wr.heap.size 2 (sideCell (s1, s2)) := by
            refine ArrAt.new wr _ _ fun j hj => ?_
            have : j = 0 ∨ j = 1 := by omega
            rcases this with rfl | rfl <;> rfl
          have hnewS : ArrAt (wr.alloc (.cells #[.int .i64 (s1 : Int), .int .i64 (s2 : Int)] 75)) G 2 (sideCell (x, y)) := HSi.out.alloc (by omega) _
          have hle := pPass_le nx (s1, s2) i
          rw [HSS.out] at hle
          have hok := HOK.out.small
          refine ⟨⟨wr.heap.size, (x, y), (s1, s2), rfl, by omega, HBi.out.alloc (by omega) _, hnewS, hnewL, HOK.out, fun h => by have := HSS.out; rw [h] at this; exact this⟩, ?_⟩
          rw [HM.out]
          obtain ⟨m0, m1⟩ := valW_side hnewS
          obtain ⟨n0, n1⟩ := valW_side hnewL
          show (if valW _ wr.heap.size 0 = valW _ G 0 ∧ valW _ wr.heap.size 1 = valW _ G 1 then 0 else 1030 - (valW _ G 0 + valW _ G 1).toNat) < _
          rw [m0, m1, n0, n1]
          have h1 : s1 ≤ x := hle.1
          have h2 : s2 ≤ y := hle.2
          have h3 : x < 512 := hok.1
          have h4 : y < 512 := hok.2
          show (if ((s1 : Nat) : Int) = ((x : Nat) : Int) ∧ ((s2 : Nat) : Int) = ((y : Nat) : Int) then 0 else 1030 - (((x : Nat) : Int) + ((y : Nat) : Int)).toNat) < _
          split <;> omega
end Go.Eng
