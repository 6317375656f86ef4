/-
  'Ruin', of arguments that are as they should be: the runs. 'Ruin', of arguments that are as they should be: what it answers. How long what '
  Conditions: see each statement.
-/
import Derived.Test.YtepakfjilnpodaaGreatDoorPAAW
import Derived.Test.YtepakfjilnpodaaGreatDoorPAAT
namespace Go.Num
open Go.Eng Go.Shelf Go.RowKit Go.Sort Go.Proofs Go.Proofs.YtepakfjilnpodaaGreatDoor

def sI : Sh := .one
def shapes : List Sh := [shR, sI, sI, shR, shR, shR, shR, shR, shR, shR, shR, shR, shR, shR, shR, shR, shR, shR, shR, shR, shR]
def ruinEnv (p q N A r pa pn c g : Rat) (k n : Int) : List (Leaf rs1) :=
  [leafR1 p, leafI1 k, leafI1 n, leafR1 1, leafR1 (-p), leafR1 q, leafR1 N, leafR1 A, leafR1 r, leafR1 pa, leafR1 (-1), leafR1 (pa - 1), leafR1 pn, leafR1 (pn - 1), leafR1 c, leafR1 (N * c), leafR1 (-A), leafR1 (N * c - A), leafR1 (-q), leafR1 (p - q), leafR1 g]
def ruinT (s : Int) : List Entry := [(16, A1 (vi 1), A1 (tg 3)), (16, A1 (vi (-1)), A1 (tg 10)), (16, A1 (tg 2), A1 (tg 6)), (16, A1 (tg 1), A1 (tg 7)), (66, A1 (tg 0), A1 (tg 4)), (66, A1 (tg 7), A1 (tg 16)), (66, A1 (tg 5), A1 (tg 18)),
  (67, A2 (tg 5) (tg 0), A1 (tg 8)), (15, A2 (tg 8) (tg 3), A1 (vi s)), (67, A2 (tg 11) (tg 13), A1 (tg 14)), (67, A2 (tg 17) (tg 19), A1 (tg 20))]
def ruinM : List EntryM := [(65, [.row (A2 (tg 3) (tg 4))], A1 (tg 5)), (69, [.pc (tg 1), .cell (tg 8)], A1 (tg 9)), (69, [.pc (tg 2), .cell (tg 8)], A1 (tg 12)), (65, [.row (A2 (tg 9) (tg 10))], A1 (tg 11)), (65, [.row (A2 (tg 12) (tg 10))], A1 (tg 13)),
  (68, [.row (A2 (tg 6) (tg 14))], A1 (tg 15)), (65, [.row (A2 (tg 15) (tg 16))], A1 (tg 17)), (65, [.row (A2 (tg 0) (tg 18))], A1 (tg 19))]
def ruinO (s : Int) : FuncId → AV → AH → Option (AV × AH) := orO (oracleM (clsL shapes) (lookM ruinM)) (oracle (clsL shapes) (lookT (ruinT s)))
abbrev ruinAM : List AM := [.cell (tg 0), .one (tg 1), .one (tg 2)]
theorem ruin_run1 : runMid Tryz.prog (clsL shapes) (ruinO 1) [133] rs1 3000 14 Tryz.f14 (sq1 b14) (sq2 (sq2 b14)) (A3 (tg 0) (tg 1) (tg 2)) 9 [3, 4, 5] ruinAM (A3 (tg 14) (tg 20) (vi 0)) = true := by kernel_rfl
theorem ruin_runM : runMid Tryz.prog (clsL shapes) (ruinO (-1)) [133] rs1 3000 14 Tryz.f14 (sq1 b14) (sq2 (sq2 b14)) (A3 (tg 0) (tg 1) (tg 2)) 9 [3, 4, 5] ruinAM (A3 (tg 14) (tg 20) (vi 0)) = true := by kernel_rfl
/-! With 1/2. -/
def halfShapes : List Sh := [shR, sI, sI, shR, shR, shR, shR, shR, shR, shR, shR, shR, shR]
def halfEnv (p q N A r : Rat) (k n : Int) : List (Leaf rs1) :=
  [leafR1 p, leafI1 k, leafI1 n, leafR1 1, leafR1 (-p), leafR1 q, leafR1 N, leafR1 A, leafR1 r, leafR1 (A / N), leafR1 (-A), leafR1 (N - A), leafR1 (A * (N - A))]
def halfT : List Entry := [(16, A1 (vi 1), A1 (tg 3)), (16, A1 (tg 2), A1 (tg 6)), (16, A1 (tg 1), A1 (tg 7)), (66, A1 (tg 0), A1 (tg 4)), (66, A1 (tg 7), A1 (tg 10)),
  (67, A2 (tg 5) (tg 0), A1 (tg 8)), (15, A2 (tg 8) (tg 3), A1 (vi 0)), (67, A2 (tg 7) (tg 6), A1 (tg 9))]
def halfM : List EntryM := [(65, [.row (A2 (tg 3) (tg 4))], A1 (tg 5)), (65, [.row (A2 (tg 6) (tg 10))], A1 (tg 11)), (68, [.row (A2 (tg 7) (tg 11))], A1 (tg 12))]
def halfO : FuncId → AV → AH → Option (AV × AH) := orO (oracleM (clsL halfShapes) (lookM halfM)) (oracle (clsL halfShapes) (lookT halfT))
theorem half_run : runMid Tryz.prog (clsL halfShapes) halfO [133] rs1 3000 14 Tryz.f14 (sq1 b14) (sq2 (sq2 b14)) (A3 (tg 0) (tg 1) (tg 2)) 9 [3, 4, 5] ruinAM (A3 (tg 9) (tg 12) (vi 0)) = true := by kernel_rfl

theorem sgnR_pos {x : Rat} (h : 0 < x) : sgnR x = 1 := by
  have h1 : 0 < x.num := by
    have h2 := Rat.num_nonneg.2 (Rat.le_of_lt h)
    have h3 : x.num ≠ 0 := fun e => by rw [Rat.num_eq_zero.1 e] at h; exact absurd h (by decide)
    omega
  unfold sgnR
  rw [if_neg (by omega), if_neg (by omega)]
theorem sgnR_negs {x : Rat} (h : x < 0) : sgnR x = -1 := by
  have h1 : ¬ 0 ≤ x.num := fun e => by
    have := Rat.num_nonneg.1 e
    exact absurd h (Rat.not_lt.2 this)
  unfold sgnR
  rw [if_pos (by omega)]
theorem nat_le_lim {k : Nat} (h : k ≤ 30) : -9223372036854775808 ≤ (k : Int) ∧ (k : Int) ≤ 9223372036854775807 := by omega
theorem ratLe_natc {k : Nat} (h : k ≤ 30) : RatLe (k : Rat) 1 := by
  have := ratLe_int (z := (k : Int)) (L := 1) (by
    have : B ^ 1 = 1000000000 := by decide
    omega) (by decide)
  rwa [Rat.intCast_natCast] at this

/-- **'Ruin'.** -/
theorem ruin_calls (w : World) (v : Value) (p : Rat) (k n : Nat) (h : RatAt w v p) (hp : RatLe p 1) (hshort : shortB p = true) (h0 : 0 < p) (h1 : p < 1) (hn1 : 1 ≤ n) (hn2 : n ≤ 30) (hk : k ≤ n) (htab : Pow10 w) :
    CallsIn Fence.wide 0 Tryz.prog 14 #[v, .int .i64 (k : Int), .int .i64 (n : Int)] w fun e w' => ∃ a b, e = .returned (.tuple #[a, b, .int .i64 0]) ∧ RatAt w' a (ruinC p k n) ∧ RatAt w' b (ruinG p k n) ∧ Below w.heap.size w w' := by
  have hpne : p ≠ 0 := fun e => by rw [e] at h0; exact absurd h0 (by decide)
  obtain ⟨q, hq⟩ : ∃ q, 1 - p = q := ⟨_, rfl⟩
  obtain ⟨r, hr⟩ : ∃ r, q / p = r := ⟨_, rfl⟩
  have hqL : RatLe q 3 := by
    have := ratLe_add ratLe_one (ratLe_neg hp)
    rw [← Rat.sub_eq_add_neg, hq] at this
    exact this
  have hrL : RatLe r 4 := by rw [← hr]; exact ratLe_div hqL hp
  have hmone : RatLe (-1 : Rat) 1 := ratLe_neg ratLe_one
  have hN := ratLe_natc hn2
  have hA := ratLe_natc (k := k) (by omega)
  have hn0 : (n : Rat) ≠ 0 := by
    intro e
    have e : (n : Rat) = ((0 : Nat) : Rat) := e
    have := Rat.natCast_inj.1 e
    omega
  have hsgn : sgnR p = 1 := sgnR_pos h0
  have hcmp : sgnR (p - ((1 : Int) : Rat)) = -1 := sgnR_negs (by
    have e : ((1 : Int) : Rat) = 1 := Rat.ext rfl rfl
    rw [e]; grind)
  have e1 : ((1 : Int) : Rat) = 1 := Rat.ext rfl rfl
  have em1 : ((-1 : Int) : Rat) = -1 := Rat.ext rfl rfl
  have ek : ((k : Int) : Rat) = (k : Rat) := Rat.intCast_natCast k
  have en : ((n : Int) : Rat) = (n : Rat) := Rat.intCast_natCast n
  have hD : ∀ g ∈ [133], StillFn Tryz.prog g := by
    intro g hg
    simp at hg
    rw [hg]; exact still_133
  have hq1 : (1 : Rat) + -p = q := by rw [← hq, Rat.sub_eq_add_neg]
  by_cases hr1 : r = 1
  · have hc : ruinC p k n = (k : Rat) / (n : Rat) := by unfold ruinC; rw [hq, hr, if_pos hr1]
    have hg : ruinG p k n = (k : Rat) * ((n : Rat) - (k : Rat)) := by unfold ruinG; rw [hq, hr, if_pos hr1]
    have hT : TI1 w (halfEnv p q n k r k n) halfT :=
      told_of (k := 3) (x := 1) rfl e1 (by decide) (by decide) <| told_ofI (z := n) (x := n) rfl rfl en (nat_le_lim hn2).1 (nat_le_lim hn2).2 <| told_ofI (z := k) (x := k) rfl rfl ek (nat_le_lim (by omega)).1 (nat_le_lim (by omega)).2 <|
      told_neg1 (x := p) rfl rfl rfl <| told_neg1 (x := k) rfl rfl rfl <| told_over (x := q) (y := p) (L := 3) rfl rfl rfl hr hqL (hp.mono (by decide)) hpne (by decide) htab <|
      told_cmp1 (x := r) (y := 1) (L := 4) rfl rfl (by rw [hr1, Rat.sub_self]; rfl) hrL (ratLe_one.mono (by decide)) (by decide) <| told_over (x := k) (y := n) (L := 1) rfl rfl rfl rfl hA hN hn0 (by decide) htab told_nil
    have hM : TM1 w (halfEnv p q n k r k n) halfM :=
      toldM_sum2 (x := 1) (y := -p) (L := 1) rfl rfl rfl hq1 ratLe_one (ratLe_neg hp) (by decide) (by decide) htab <|
      toldM_sum2 (x := n) (y := -k) (L := 1) rfl rfl rfl (by rw [Rat.sub_eq_add_neg]) hN (ratLe_neg hA) (by decide) (by decide) htab <|
      toldM_prod2 (x := k) (y := n - k) (L := 3) rfl rfl rfl rfl (hA.mono (by decide)) (by rw [Rat.sub_eq_add_neg]; exact (ratLe_add hN (ratLe_neg hA)).mono (by decide)) (by decide) (by decide) htab toldM_nil
    have hO : CallsOK Tryz.prog w.heap.size w (Gs (halfEnv p q n k r k n)) halfO := orO_ok (oracleM_ok (shapedS rfl) hM) (oracle_ok (shapedS rfl) hT)
    refine (mid_script follows namesOK (env := halfEnv p q n k r k n) (S := halfShapes) rfl hO hD Tryz.func14 body14 half_run (xs := #[v, .int .i64 k, .int .i64 n]) (ps3 (leaf_at1 (k := 0) rfl h) rfl rfl)
      (fun c w1 hw hd hsz hm => ruin_mid (k := k) (n := n) rfl rfl rfl htab hshort hsgn hcmp (by omega) (by omega) (by omega) (by omega) (hp.mono (by decide)) c w1 hw hd hsz hm)).mono ?_
    rintro e w' ⟨x, rfl, hx, hB⟩
    obtain ⟨a, b, c, rfl, g1, g2, g3⟩ := un3 hx
    have g3 : some (Value.int .i64 0) = some c := g3
    cases g3
    refine ⟨a, b, rfl, ?_, ?_, hB⟩
    · rw [hc]; exact leaf_un1 (k := 9) rfl g1
    · rw [hg]; exact leaf_un1 (k := 12) rfl g2
  · have hrpos : 0 < r := by
      rw [← hr, Rat.div_def]
      exact Rat.mul_pos (by grind) (Rat.inv_pos.2 h0)
    obtain ⟨pa, hpa⟩ : ∃ x, pw r k = x := ⟨_, rfl⟩
    obtain ⟨pn, hpn⟩ : ∃ x, pw r n = x := ⟨_, rfl⟩
    obtain ⟨c, hc⟩ : ∃ x, (pa - 1) / (pn - 1) = x := ⟨_, rfl⟩
    obtain ⟨g, hg⟩ : ∃ x, (n * c - k) / (p - q) = x := ⟨_, rfl⟩
    have hC : ruinC p k n = c := by unfold ruinC; rw [hq, hr, if_neg hr1, hpa, hpn, hc]
    have hG : ruinG p k n = g := by unfold ruinG; rw [hC, hq, hr, if_neg hr1, hg]
    have hpaL : RatLe pa 121 := by rw [← hpa]; exact (ratLe_pw hrL k).mono (by omega)
    have hpnL : RatLe pn 121 := by rw [← hpn]; exact (ratLe_pw hrL n).mono (by omega)
    have hu : RatLe (pa - 1) 123 := by rw [Rat.sub_eq_add_neg]; exact (ratLe_add hpaL hmone).mono (by decide)
    have hv : RatLe (pn - 1) 123 := by rw [Rat.sub_eq_add_neg]; exact (ratLe_add hpnL hmone).mono (by decide)
    have hcL : RatLe c 246 := by rw [← hc]; exact ratLe_div hu hv
    have he1 : RatLe (n * c) 247 := by have := ratLe_mul hN hcL; exact this.mono (by decide)
    have he2 : RatLe (n * c - k) 249 := by rw [Rat.sub_eq_add_neg]; exact (ratLe_add he1 (ratLe_neg hA)).mono (by decide)
    have he3 : RatLe (p - q) 5 := by rw [Rat.sub_eq_add_neg]; exact (ratLe_add hp (ratLe_neg hqL)).mono (by decide)
    have hv0 : pn - 1 ≠ 0 := by
      have := pw_ne hrpos hr1 (n := n) (by omega)
      rw [hpn] at this
      grind
    have he30 : p - q ≠ 0 := by
      intro e
      apply hr1
      rw [← hr]
      have : q = p := by grind
      rw [this]
      grind
    have hM : TM1 w (ruinEnv p q n k r pa pn c g k n) ruinM :=
      toldM_sum2 (x := 1) (y := -p) (L := 1) rfl rfl rfl hq1 ratLe_one (ratLe_neg hp) (by decide) (by decide) htab <|
      toldM_pow (x := r) (n := k) (L := 4) rfl rfl rfl hpa (by omega) hrL (by decide) htab <| toldM_pow (x := r) (n := n) (L := 4) rfl rfl rfl hpn hn2 hrL (by decide) htab <|
      toldM_sum2 (x := pa) (y := -1) (L := 121) rfl rfl rfl (by rw [Rat.sub_eq_add_neg]) hpaL (hmone.mono (by decide)) (by decide) (by decide) htab <|
      toldM_sum2 (x := pn) (y := -1) (L := 121) rfl rfl rfl (by rw [Rat.sub_eq_add_neg]) hpnL (hmone.mono (by decide)) (by decide) (by decide) htab <|
      toldM_prod2 (x := n) (y := c) (L := 246) rfl rfl rfl rfl (hN.mono (by decide)) hcL (by decide) (by decide) htab <|
      toldM_sum2 (x := n * c) (y := -k) (L := 247) rfl rfl rfl (by rw [Rat.sub_eq_add_neg]) he1 ((ratLe_neg hA).mono (by decide)) (by decide) (by decide) htab <|
      toldM_sum2 (x := p) (y := -q) (L := 3) rfl rfl rfl (by rw [Rat.sub_eq_add_neg]) (hp.mono (by decide)) (ratLe_neg hqL) (by decide) (by decide) htab toldM_nil
    have hT : ∀ s, sgnR (r - 1) = s → TI1 w (ruinEnv p q n k r pa pn c g k n) (ruinT s) := fun s hs =>
      told_of (k := 3) (x := 1) rfl e1 (by decide) (by decide) <| told_of (k := 10) (x := -1) rfl em1 (by decide) (by decide) <| told_ofI (z := n) (x := n) rfl rfl en (nat_le_lim hn2).1 (nat_le_lim hn2).2 <| told_ofI (z := k) (x := k) rfl rfl ek (nat_le_lim (by omega)).1 (nat_le_lim (by omega)).2 <|
      told_neg1 (x := p) rfl rfl rfl <| told_neg1 (x := k) rfl rfl rfl <| told_neg1 (x := q) rfl rfl rfl <| told_over (x := q) (y := p) (L := 3) rfl rfl rfl hr hqL (hp.mono (by decide)) hpne (by decide) htab <|
      told_cmp1 (x := r) (y := 1) (L := 4) rfl rfl hs hrL (ratLe_one.mono (by decide)) (by decide) <| told_over (x := pa - 1) (y := pn - 1) (L := 123) rfl rfl rfl hc hu hv hv0 (by decide) htab <|
      told_over (x := n * c - k) (y := p - q) (L := 249) rfl rfl rfl hg he2 (he3.mono (by decide)) he30 (by decide) htab told_nil
    have fin : ∀ s, sgnR (r - 1) = s → runMid Tryz.prog (clsL shapes) (ruinO s) [133] rs1 3000 14 Tryz.f14 (sq1 b14) (sq2 (sq2 b14)) (A3 (tg 0) (tg 1) (tg 2)) 9 [3, 4, 5] ruinAM (A3 (tg 14) (tg 20) (vi 0)) = true →
        CallsIn Fence.wide 0 Tryz.prog 14 #[v, .int .i64 (k : Int), .int .i64 (n : Int)] w fun e w' => ∃ a b, e = .returned (.tuple #[a, b, .int .i64 0]) ∧ RatAt w' a (ruinC p k n) ∧ RatAt w' b (ruinG p k n) ∧ Below w.heap.size w w' := by
      intro s hs hrun
      have hO : CallsOK Tryz.prog w.heap.size w (Gs (ruinEnv p q n k r pa pn c g k n)) (ruinO s) := orO_ok (oracleM_ok (shapedS rfl) hM) (oracle_ok (shapedS rfl) (hT s hs))
      refine (mid_script follows namesOK (env := ruinEnv p q n k r pa pn c g k n) (S := shapes) rfl hO hD Tryz.func14 body14 hrun (xs := #[v, .int .i64 k, .int .i64 n]) (ps3 (leaf_at1 (k := 0) rfl h) rfl rfl)
        (fun c w1 hw hd hsz hm => ruin_mid (k := k) (n := n) rfl rfl rfl htab hshort hsgn hcmp (by omega) (by omega) (by omega) (by omega) (hp.mono (by decide)) c w1 hw hd hsz hm)).mono ?_
      rintro e w' ⟨x, rfl, hx, hB⟩
      obtain ⟨a, b, c', rfl, g1, g2, g3⟩ := un3 hx
      have g3 : some (Value.int .i64 0) = some c' := g3
      cases g3
      refine ⟨a, b, rfl, ?_, ?_, hB⟩
      · rw [hC]; exact leaf_un1 (k := 14) rfl g1
      · rw [hG]; exact leaf_un1 (k := 20) rfl g2
    rcases Classical.em (1 < r) with hlt | hge
    · exact fin 1 (sgnR_pos (by grind)) ruin_run1
    · exact fin (-1) (sgnR_negs (by grind)) ruin_runM
end Go.Num
namespace Go.Num
open Go.Eng Go.Proofs Go.Proofs.YtepakfjilnpodaaGreatDoor

def fr (a b : Nat) : Rat := ((a : Int) : Rat) / ((b : Int) : Rat)
def frOK (a b : Nat) : Bool := Nat.blt (fr a b).num.natAbs 1000 && Nat.blt (fr a b).den 1000
theorem fr_all : ((List.range 32).all fun a => (List.range 32).all fun b => frOK a b) = true := by kernel_rfl
theorem fr_small {a b : Nat} (ha : a ≤ 31) (hb : b ≤ 31) : (fr a b).num.natAbs < 1000 ∧ (fr a b).den < 1000 := by
  have h := List.all_eq_true.1 (List.all_eq_true.1 fr_all a (List.mem_range.2 (by omega))) b (List.mem_range.2 (by omega))
  unfold frOK at h
  rw [Bool.and_eq_true] at h
  exact ⟨Nat.le_of_ble_eq_true h.1, Nat.le_of_ble_eq_true h.2⟩
theorem fr_le {a b : Nat} (ha : a ≤ 31) (hb : b ≤ 31) : RatLe (fr a b) 1 := by
  have h := fr_small ha hb
  have e : B ^ 1 = 1000000000 := by decide
  exact ⟨by omega, by omega⟩
theorem nat_pos {b : Nat} (h : 0 < b) : (0 : Rat) < ((b : Int) : Rat) := Rat.intCast_pos.2 (by omega)
theorem fr_mul {a b : Nat} (hb : 0 < b) : fr a b * ((b : Int) : Rat) = ((a : Int) : Rat) := by
  have h := nat_pos hb
  unfold fr
  have : ((b : Int) : Rat) ≠ 0 := by grind
  grind
theorem fr_pos {a b : Nat} (ha : 0 < a) (hb : 0 < b) : 0 < fr a b := by
  unfold fr
  rw [Rat.div_def]
  exact Rat.mul_pos (nat_pos ha) (Rat.inv_pos.2 (nat_pos hb))
theorem fr_lt {a b : Nat} (h : a < b) : fr a b < 1 := by
  have h1 := fr_mul (a := a) (b := b) (by omega)
  have h2 := nat_pos (b := b) (by omega)
  have h3 : (0 : Rat) < ((b : Int) : Rat) - ((a : Int) : Rat) := by
    have := nat_pos (b := b - a) (by omega)
    have e : ((b - a : Nat) : Int) = (b : Int) - (a : Int) := by omega
    rw [e, Rat.intCast_sub] at this
    exact this
  rcases Classical.em (fr a b < 1) with q | q
  · exact q
  · have h4 : 0 ≤ (fr a b - 1) * ((b : Int) : Rat) := Rat.mul_nonneg (by grind) (by grind)
    exfalso
    grind
theorem fr_short {a b : Nat} (ha : 0 < a) (ha2 : a ≤ 31) (hb : 0 < b) (hb2 : b ≤ 31) : shortB (fr a b) = true := by
  have h := fr_small ha2 hb2
  have h0 : 0 ≤ (fr a b).num := Rat.num_nonneg.2 (Rat.le_of_lt (fr_pos ha hb))
  unfold shortB SmallQ
  have h1 := nDigits_le 5 (fr a b).num.natAbs (by have : (10 : Nat) ^ (5 + 1) = 1000000 := by decide
                                                  omega)
  have h2 := nDigits_le 5 (fr a b).den (by have : (10 : Nat) ^ (5 + 1) = 1000000 := by decide
                                           omega)
  rw [decide_eq_true h0, decide_eq_true (by omega), decide_eq_true (by omega)]
  rfl
theorem fr_compl {a b : Nat} (h : a ≤ b) (hb : 0 < b) : fr (b - a) b = 1 - fr a b := by
  have h2 := nat_pos hb
  have e : ((b - a : Nat) : Int) = (b : Int) - (a : Int) := by omega
  unfold fr
  rw [e, Rat.intCast_sub]
  have : ((b : Int) : Rat) ≠ 0 := by grind
  grind

theorem ruin_le {p : Rat} {k n : Nat} (hp : RatLe p 1) (hn2 : n ≤ 30) (hk : k ≤ n) : RatLe (ruinC p k n) 300 ∧ RatLe (ruinG p k n) 300 := by
  have hqL : RatLe (1 - p) 3 := by
    rw [Rat.sub_eq_add_neg]; exact (ratLe_add ratLe_one (ratLe_neg hp)).mono (by decide)
  have hrL : RatLe ((1 - p) / p) 4 := ratLe_div hqL hp
  have hmone : RatLe (-1 : Rat) 1 := ratLe_neg ratLe_one
  have hN := ratLe_natc hn2
  have hA := ratLe_natc (k := k) (by omega)
  have hpa : RatLe (pw ((1 - p) / p) k) 121 := (ratLe_pw hrL k).mono (by omega)
  have hpn : RatLe (pw ((1 - p) / p) n) 121 := (ratLe_pw hrL n).mono (by omega)
  have hc : RatLe (ruinC p k n) 246 := by
    unfold ruinC
    split
    · exact (ratLe_div hA hN).mono (by decide)
    · rw [Rat.sub_eq_add_neg, Rat.sub_eq_add_neg (pw _ n)]
      exact (ratLe_div (ratLe_add hpa hmone) (ratLe_add hpn hmone)).mono (by decide)
  refine ⟨hc.mono (by decide), ?_⟩
  unfold ruinG
  split
  · rw [Rat.sub_eq_add_neg]
    exact (ratLe_mul hA (ratLe_add hN (ratLe_neg hA))).mono (by decide)
  · rw [Rat.sub_eq_add_neg, Rat.sub_eq_add_neg p]
    exact (ratLe_div (ratLe_add (ratLe_mul hN hc) (ratLe_neg hA)) (ratLe_add hp (ratLe_neg hqL))).mono (by decide)
theorem fr_half : fr 1 2 = 1 / 2 := by
  unfold fr
  rw [show ((1 : Nat) : Int) = (1 : Int) from rfl, show ((2 : Nat) : Int) = (2 : Int) from rfl, show ((1 : Int) : Rat) = 1 from Rat.ext rfl rfl, show ((2 : Int) : Rat) = 2 from Rat.ext rfl rfl]
theorem half_c (k n : Nat) : ruinC (fr 1 2) k n = fr k n := by
  rw [fr_half, (ruin_half k n).1]
  unfold fr
  rw [Rat.intCast_natCast, Rat.intCast_natCast]
theorem half_g {k n : Nat} (h : k ≤ n) : ruinG (fr 1 2) k n = (((k * (n - k) : Nat) : Int) : Rat) := by
  rw [fr_half, (ruin_half k n).2, Rat.intCast_natCast, Rat.natCast_mul]
  have : n = n - k + k := by omega
  have h2 : (n : Rat) = ((n - k + k : Nat) : Rat) := by rw [← this]
  rw [Rat.natCast_add] at h2
  grind
theorem sgn_same {x y : Rat} (h : x = y) : sgnR (x - y) = 0 := by rw [h, Rat.sub_self]; rfl
theorem text_one : textQ 1 = ⟨#[49]⟩ := by
  rw [textQ_one rfl]
  unfold textZ
  have : Lib.itoa (1 : Rat).num = [49] := by
    unfold Lib.itoa
    rw [if_neg (by decide), Lib.decDigits, dif_pos (by decide)]
    rfl
  rw [this]
end Go.Num
namespace Go.Num
open Go.Eng Go.Shelf Go.RowKit Go.Sort Go.Proofs Go.Proofs.YtepakfjilnpodaaGreatDoor

theorem u64_nat (z : Int) : ∃ D : Nat, IntKind.u64.wrap z = (D : Int) ∧ D < 18446744073709551616 := by
  have h : IntKind.u64.wrap z = z % 18446744073709551616 := by
    simp [IntKind.wrap, IntKind.bits, IntKind.signed]
  refine ⟨(z % 18446744073709551616).toNat, ?_, by omega⟩
  rw [h]; omega
theorem w64 {z : Int} (h1 : -9223372036854775808 ≤ z) (h2 : z ≤ 9223372036854775807) : wrap64 z = z := by
  unfold wrap64; omega
theorem u64_id {x : Nat} (h : x < 18446744073709551616) : IntKind.u64.wrap (x : Int) = (x : Int) := u64_small h
theorem pasc_n (d : Int) : ∃ n : Nat, wrap64 (1 + wrap64 ((IntKind.u64.wrap d).tmod 30)) = (n : Int) ∧ 1 ≤ n ∧ n ≤ 30 := by
  obtain ⟨D, e1, hD⟩ := u64_nat d
  have e2 : (D : Int).tmod 30 = ((D % 30 : Nat) : Int) := rfl
  have hlt : D % 30 < 30 := Nat.mod_lt _ (by decide)
  rw [e1, e2]
  generalize D % 30 = M at hlt
  rw [w64 (z := (M : Int)) (by omega) (by omega), w64 (by omega) (by omega)]
  exact ⟨1 + M, by omega, by omega, by omega⟩
theorem pasc_k (c : Int) (n : Nat) (h1 : 1 ≤ n) (h2 : n ≤ 30) : ∃ k : Nat, wrap64 ((IntKind.u64.wrap c).tmod (IntKind.u64.wrap (wrap64 ((n : Int) + 1)))) = (k : Int) ∧ ¬ IntKind.u64.wrap (wrap64 ((n : Int) + 1)) = 0 ∧ k ≤ n := by
  obtain ⟨C, e1, hC⟩ := u64_nat c
  have e3 : wrap64 ((n : Int) + 1) = ((n + 1 : Nat) : Int) := by rw [w64 (by omega) (by omega)]; omega
  have e2 : (C : Int).tmod ((n + 1 : Nat) : Int) = ((C % (n + 1) : Nat) : Int) := rfl
  have hlt : C % (n + 1) < n + 1 := Nat.mod_lt _ (by omega)
  rw [e1, e3, u64_id (by omega), e2]
  generalize C % (n + 1) = M at hlt
  rw [w64 (z := (M : Int)) (by omega) (by omega)]
  exact ⟨M, rfl, by omega, by omega⟩
theorem pasc_l (b : Int) : ∃ l : Nat, wrap64 (2 + wrap64 ((IntKind.u64.wrap b).tmod 30)) = (l : Int) ∧ 2 ≤ l ∧ l ≤ 31 := by
  obtain ⟨D, e1, hD⟩ := u64_nat b
  have e2 : (D : Int).tmod 30 = ((D % 30 : Nat) : Int) := rfl
  have hlt : D % 30 < 30 := Nat.mod_lt _ (by decide)
  rw [e1, e2]
  generalize D % 30 = M at hlt
  rw [w64 (z := (M : Int)) (by omega) (by omega), w64 (by omega) (by omega)]
  exact ⟨2 + M, by omega, by omega, by omega⟩
theorem pasc_a (a : Int) (l : Nat) (h1 : 2 ≤ l) (h2 : l ≤ 31) : ∃ A : Nat, wrap64 (1 + wrap64 ((IntKind.u64.wrap a).tmod (IntKind.u64.wrap (wrap64 ((l : Int) - 1))))) = (A : Int) ∧ ¬ IntKind.u64.wrap (wrap64 ((l : Int) - 1)) = 0 ∧ 1 ≤ A ∧ A < l := by
  obtain ⟨C, e1, hC⟩ := u64_nat a
  have e3 : wrap64 ((l : Int) - 1) = ((l - 1 : Nat) : Int) := by rw [w64 (by omega) (by omega)]; omega
  have e2 : (C : Int).tmod ((l - 1 : Nat) : Int) = ((C % (l - 1) : Nat) : Int) := rfl
  have hlt : C % (l - 1) < l - 1 := Nat.mod_lt _ (by omega)
  rw [e1, e3, u64_id (by omega), e2]
  generalize C % (l - 1) = M at hlt
  rw [w64 (z := (M : Int)) (by omega) (by omega), w64 (by omega) (by omega)]
  exact ⟨1 + M, by omega, by omega, by omega, by omega⟩
theorem one_one (w16 : World) : (binOp .eql 9 (.string ⟨#[49]⟩) (.string ⟨#[49]⟩)).run Tryz.prog w16 = .ok (.bool true) w16 := by
  simp [binOp, Op.stringOp, Sem.run_pure]
theorem u3i : Tryz.prog.underlying 3 = some (.int .i64) := by kernel_rfl
theorem pasc_mul {n k : Nat} (h1 : n ≤ 30) (h2 : k ≤ n) : wrap64 ((k : Int) * ((n - k : Nat) : Int)) = ((k * (n - k) : Nat) : Int) ∧ -9223372036854775808 ≤ ((k * (n - k) : Nat) : Int) ∧ ((k * (n - k) : Nat) : Int) ≤ 9223372036854775807 := by
  have h3 : k * (n - k) ≤ 30 * 30 := Nat.mul_le_mul (by omega) (by omega)
  rw [← Int.natCast_mul]
  generalize k * (n - k) = z at h3
  refine ⟨w64 (by omega) (by omega), by omega, by omega⟩
theorem pasc_le {n k : Nat} (h1 : n ≤ 30) (h2 : k ≤ n) : RatLe (((k * (n - k) : Nat) : Int) : Rat) 1 := by
  have h3 : k * (n - k) ≤ 30 * 30 := Nat.mul_le_mul (by omega) (by omega)
  generalize k * (n - k) = z at h3
  refine ratLe_int (z := (z : Int)) (L := 1) ?_ (by decide)
  have : B ^ 1 = 1000000000 := by decide
  omega
theorem RatAt.form' {w : World} {v : Value} {q : Rat} (h : RatAt w v q) : ∃ s o k c o2 k2 c2, v = .agg #[.bool s, .slice o k c, .slice o2 k2 c2] := by
  obtain ⟨o, k, c, o2, k2, c2, e⟩ := h.form
  exact ⟨_, o, k, c, o2, k2, c2, e⟩
/-- A box of a fraction. -/
structure BoxV (W : World) (g : Nat) (s : Bool) (o1 : Option Addr) (k1 c1 : Nat) (o2 : Option Addr) (k2 c2 : Nat) (q : Rat) : Prop where
  box : Box3 W g (.bool s) (.slice o1 k1 c1) (.slice o2 k2 c2)
  rat : RatAt W (.agg #[.bool s, .slice o1 k1 c1, .slice o2 k2 c2]) q
theorem BoxV.below {W W' : World} {g : Nat} {s : Bool} {o1 : Option Addr} {k1 c1 : Nat} {o2 : Option Addr} {k2 c2 : Nat} {q : Rat} (h : BoxV W g s o1 k1 c1 o2 k2 c2 q) (hb : Below W.heap.size W W') : BoxV W' g s o1 k1 c1 o2 k2 c2 q := ⟨h.box.below hb, h.rat.below hb⟩
theorem boxV_new {w : World} {s : Bool} {o1 : Option Addr} {k1 c1 : Nat} {o2 : Option Addr} {k2 c2 : Nat} {q : Rat} (h : RatAt w (.agg #[.bool s, .slice o1 k1 c1, .slice o2 k2 c2]) q) : BoxV (w.alloc (.cells #[.bool s, .slice o1 k1 c1, .slice o2 k2 c2] 27)) w.heap.size s o1 k1 c1 o2 k2 c2 q := ⟨box3_new _ _ _ _ _, h.below (alloc_below _ _)⟩

set_option maxRecDepth 100000 in
set_option maxHeartbeats 8000000 in
/-- **WalkPascal.** -/
theorem walkPascal_walk (w : World) (a b c d : Int) (hL : Laid w) :
    CallsIn Fence.wide 0 Tryz.prog 3 #[.agg #[.int .i64 a, .int .i64 b, .int .i64 c, .int .i64 d]] w fun e w' => e = .returned (.bool true) ∧ Below w.heap.size w w' := by
  have HL := Hid.intro hL
  clear hL
  refine callsIn_of_wp Tryz.func3 rfl trivial ?_ rfl
  simp only [Tryz.ntmps3, List.size_toArray, List.length_cons, List.length_nil, Nat.reduceAdd, Nat.reduceSub, Array.replicate_succ, Array.replicate_zero, List.push_toArray, List.append_toArray, List.nil_append, List.cons_append]
  gi_wp2
  obtain ⟨W1, hW1⟩ : ∃ W, w.alloc (.cells #[.int .i64 a, .int .i64 b, .int .i64 c, .int .i64 d] 22) = W := ⟨_, rfl⟩
  have y0 : W1.cell? ⟨w.heap.size, 0, none⟩ = some (.int .i64 a) := by rw [← hW1, World.cell?_alloc_new]; rfl
  have y1 : W1.cell? ⟨w.heap.size, 1, none⟩ = some (.int .i64 b) := by rw [← hW1, World.cell?_alloc_new]; rfl
  have y2 : W1.cell? ⟨w.heap.size, 2, none⟩ = some (.int .i64 c) := by rw [← hW1, World.cell?_alloc_new]; rfl
  have y3 : W1.cell? ⟨w.heap.size, 3, none⟩ = some (.int .i64 d) := by rw [← hW1, World.cell?_alloc_new]; rfl
  have HBW : Hid (Below w.heap.size w W1) := Hid.intro (by rw [← hW1]; exact alloc_below _ _)
  rw [hW1]
  obtain ⟨g, hg⟩ : ∃ g, w.heap.size = g := ⟨_, rfl⟩
  rw [hg] at y0 y1 y2 y3
  rw [hg]
  clear hW1 hg
  gi_region
  clear y0 y1 y2 y3
  obtain ⟨n, hnE, hn1, hn2⟩ := pasc_n d
  obtain ⟨k, hkE, hne, hkn⟩ := pasc_k c n hn1 hn2
  have hne : ¬ IntKind.u64.wrap (wrap64 (wrap64 (1 + wrap64 ((IntKind.u64.wrap d).tmod 30)) + 1)) = 0 := by rw [hnE]; exact hne
  have HNE := Hid.intro hnE
  clear hnE
  gi_wp2_with (gi_at_call 13; refine stop ?_)
  unfold Stop
  rw [HNE.out, hkE]
  clear hne hkE
  have HB : Hid (Below w.heap.size w W1.drew) := Hid.intro (HBW.out.trans ((drew_below W1).mono HBW.out.size))
  clear HBW
  refine (make_calls W1.drew 1 2 (by decide) (by decide) (by decide) (by decide) (by decide)).mono ?_
  rintro e w2 ⟨v2, rfl, hr2, hB⟩
  replace hr2 : RatAt w2 v2 (fr 1 2) := hr2
  replace HB := Hid.intro (HB.out.trans (hB.mono HB.out.size))
  obtain ⟨s2, o2, k2, c2, p2, l2, d2, rfl⟩ := hr2.form'
  have HR2 := Hid.intro hr2
  clear hr2 hB
  gi_wp2_with (gi_at_call 14; refine stop ?_)
  unfold Stop
  obtain ⟨W7, hW⟩ : ∃ W, w2.alloc (.cells #[.bool s2, .slice o2 k2 c2, .slice p2 l2 d2] 27) = W := ⟨_, rfl⟩
  have hbx : Below w2.heap.size w2 W7 := by rw [← hW]; exact alloc_below _ _
  replace HB := Hid.intro (HB.out.trans (hbx.mono HB.out.size))
  have HX7 := Hid.intro (show BoxV W7 w2.heap.size s2 o2 k2 c2 p2 l2 d2 _ by rw [← hW]; exact boxV_new HR2.out)
  rw [hW]
  obtain ⟨g7, hg⟩ : ∃ g, w2.heap.size = g := ⟨_, rfl⟩
  rw [hg] at HX7
  rw [hg]
  clear hW hg hbx HR2
  refine (ruin_calls W7 _ (fr 1 2) k n HX7.out.rat (fr_le (by decide) (by decide)) (fr_short (by decide) (by decide) (by decide) (by decide)) (fr_pos (by decide) (by decide)) (fr_lt (by decide)) hn1 hn2 hkn (HL.out.pow.below HB.out)).mono ?_
  rintro e w3 ⟨v3, v4, rfl, hr3, hr4, hB⟩
  replace HX7 := Hid.intro (HX7.out.below hB)
  replace HB := Hid.intro (HB.out.trans (hB.mono HB.out.size))
  obtain ⟨s3, o3, k3, c3, p3, l3, d3, rfl⟩ := hr3.form'
  have HR3 := Hid.intro hr3
  obtain ⟨s4, o4, k4, c4, p4, l4, d4, rfl⟩ := hr4.form'
  have HR4 := Hid.intro hr4
  clear hr3 hr4 hB
  gi_wp2_with (gi_at_call 13; refine stop ?_)
  unfold Stop
  obtain ⟨W9, hW⟩ : ∃ W, w3.alloc (.cells #[.bool s3, .slice o3 k3 c3, .slice p3 l3 d3] 27) = W := ⟨_, rfl⟩
  have hbx : Below w3.heap.size w3 W9 := by rw [← hW]; exact alloc_below _ _
  replace HX7 := Hid.intro (HX7.out.below hbx)
  replace HB := Hid.intro (HB.out.trans (hbx.mono HB.out.size))
  have HX9 := Hid.intro (show BoxV W9 w3.heap.size s3 o3 k3 c3 p3 l3 d3 _ by rw [← hW]; exact boxV_new HR3.out)
  rw [hW]
  obtain ⟨g9, hg⟩ : ∃ g, w3.heap.size = g := ⟨_, rfl⟩
  rw [hg] at HX9
  rw [hg]
  have hsz : W9.heap.size = g9 + 1 := by rw [← hg, ← hW]; simp
  replace HR4 := Hid.intro (HR4.out.below hbx)
  clear hW hg hbx HR3
  obtain ⟨W10, hW⟩ : ∃ W, W9.alloc (.cells #[.bool s4, .slice o4 k4 c4, .slice p4 l4 d4] 27) = W := ⟨_, rfl⟩
  have hbx : Below W9.heap.size W9 W10 := by rw [← hW]; exact alloc_below _ _
  replace HX7 := Hid.intro (HX7.out.below hbx)
  replace HX9 := Hid.intro (HX9.out.below hbx)
  replace HB := Hid.intro (HB.out.trans (hbx.mono HB.out.size))
  have HX10 := Hid.intro (show BoxV W10 W9.heap.size s4 o4 k4 c4 p4 l4 d4 _ by rw [← hW]; exact boxV_new HR4.out)
  rw [hW]
  obtain ⟨g10, hg⟩ : ∃ g, W9.heap.size = g := ⟨_, rfl⟩
  rw [hg] at HX10
  rw [← hsz, hg]
  clear hsz hW hg hbx HR4
  refine (make_calls W10 (k : Int) (n : Int) (by omega) (by omega) (by omega) (by omega) (by omega)).mono ?_
  rintro e w5 ⟨v5, rfl, hr5, hB⟩
  replace hr5 : RatAt w5 v5 (fr k n) := hr5
  replace HX7 := Hid.intro (HX7.out.below hB)
  replace HX9 := Hid.intro (HX9.out.below hB)
  replace HX10 := Hid.intro (HX10.out.below hB)
  replace HB := Hid.intro (HB.out.trans (hB.mono HB.out.size))
  obtain ⟨s5, o5, k5, c5, p5, l5, d5, rfl⟩ := hr5.form'
  have HR5 := Hid.intro hr5
  clear hr5 hB
  gi_wp2
  obtain ⟨W12, hW⟩ : ∃ W, w5.alloc (.cells #[.bool s5, .slice o5 k5 c5, .slice p5 l5 d5] 27) = W := ⟨_, rfl⟩
  have hbx : Below w5.heap.size w5 W12 := by rw [← hW]; exact alloc_below _ _
  replace HX7 := Hid.intro (HX7.out.below hbx)
  replace HX9 := Hid.intro (HX9.out.below hbx)
  replace HX10 := Hid.intro (HX10.out.below hbx)
  replace HB := Hid.intro (HB.out.trans (hbx.mono HB.out.size))
  have HX12 := Hid.intro (show BoxV W12 w5.heap.size s5 o5 k5 c5 p5 l5 d5 _ by rw [← hW]; exact boxV_new HR5.out)
  rw [hW]
  obtain ⟨g12, hg⟩ : ∃ g, w5.heap.size = g := ⟨_, rfl⟩
  rw [hg] at HX12
  rw [hg]
  clear hW hg hbx HR5
  have hB : Below W12.heap.size W12 W12.drew := drew_below W12
  refine wpIn_region_gv (ro := none) [5, 15, 16] (List.range 19) [0, 1, 3, 7, 7, 31, 63, 127, 255, 511, 511, 511, 511, 6655, 15871, 32255, 65535, 131071, 262143] follows rfl 160 rfl (by kernel_rfl) (by kernel_rfl) ?_
  generalize W12.drew = wd at hB ⊢
  refine GV.mv (v := .int .i64 0) rfl trivial rfl rfl rfl ?_
  refine GV.neq (p := 0) (q := 0) (b := false) rfl rfl trivial rfl rfl rfl rfl ?_
  refine GV.mv (v := .bool false) rfl trivial rfl rfl rfl ?_
  refine GV.ldn (p := ⟨g9, 0, none⟩) [.bool s3, .slice o3 k3 c3, .slice p3 l3 d3] lm27 (fun j v hj => by rw [addr_add0]; exact (HX9.out.below hB).box j v hj) rfl rfl ⟨_, _, rfl, rfl, rfl⟩ rfl rfl rfl (by decide) rfl ?_
  refine GV.ldn (p := ⟨g12, 0, none⟩) [.bool s5, .slice o5 k5 c5, .slice p5 l5 d5] lm27 (fun j v hj => by rw [addr_add0]; exact (HX12.out.below hB).box j v hj) rfl rfl ⟨_, _, rfl, rfl, rfl⟩ rfl rfl rfl (by decide) rfl ?_
  refine GV.call (R := fun v _ => v = .int .i64 0) [.agg #[.bool s3, .slice o3 k3 c3, .slice p3 l3 d3], .agg #[.bool s5, .slice o5 k5 c5, .slice p5 l5 d5]] Tryz.func15 rfl namesOK rfl ⟨_, _, rfl, rfl, rfl⟩ rfl rfl rfl rfl ((cmpR_calls wd _ _ (ruinC (fr 1 2) k n) (fr k n) 300 (HX9.out.below hB).rat (HX12.out.below hB).rat (ruin_le (fr_le (by decide) (by decide)) hn2 hkn).1 ((fr_le (by omega) (by omega)).mono (by decide)) (by decide)).mono ?c1) ?_
  case c1 =>
    rintro e w' ⟨rfl, hb⟩
    exact ⟨_, rfl, by rw [sgn_same (half_c k n)], hb⟩
  rintro v1 w6 rfl hB2
  replace hB := hB.trans (hB2.mono hB.size)
  clear hB2
  refine GV.neq (p := 0) (q := 0) (b := false) rfl rfl ⟨_, _, rfl, rfl, rfl⟩ rfl rfl rfl rfl ?_
  refine GV.pick (b := false) (v := .bool false) rfl rfl rfl trivial rfl rfl ?_
  refine GV.mv (v := .bool false) rfl trivial rfl rfl rfl ?_
  refine GV.ldn (p := ⟨g10, 0, none⟩) [.bool s4, .slice o4 k4 c4, .slice p4 l4 d4] lm27 (fun j v hj => by rw [addr_add0]; exact (HX10.out.below hB).box j v hj) rfl rfl ⟨_, _, rfl, rfl, rfl⟩ rfl rfl rfl (by decide) rfl ?_
  refine GV.mv (v := .int .i64 k) rfl ⟨_, _, rfl, rfl, rfl⟩ rfl rfl rfl ?_
  refine GV.mv (v := .int .i64 n) rfl ⟨_, _, rfl, rfl, rfl⟩ rfl rfl rfl ?_
  refine GV.mv (v := .int .i64 k) rfl ⟨_, _, rfl, rfl, rfl⟩ rfl rfl rfl ?_
  refine GV.sub (p := n) (q := k) (z := ((n - k : Nat) : Int)) u3i (by rw [w64 (by omega) (by omega)]; omega) rfl ⟨_, _, rfl, rfl, rfl⟩ rfl rfl rfl rfl ?_
  refine GV.mul (p := k) (q := ((n - k : Nat) : Int)) (z := ((k * (n - k) : Nat) : Int)) u3i (pasc_mul hn2 hkn).1 rfl ⟨_, _, rfl, rfl, rfl⟩ rfl rfl rfl rfl ?_
  refine GV.call (R := fun v w' => RatAt w' v (((k * (n - k) : Nat) : Int) : Rat)) [.int .i64 ((k * (n - k) : Nat) : Int)] Tryz.func16 rfl namesOK rfl ⟨_, _, rfl, rfl, rfl⟩ rfl rfl rfl rfl ((ofN_calls w6 _ (pasc_mul hn2 hkn).2.1 (pasc_mul hn2 hkn).2.2).mono ?c2) ?_
  case c2 =>
    rintro e w' ⟨v', rfl, hr', hb⟩
    exact ⟨_, rfl, hr', hb⟩
  rintro v6 w7 hr6 hB2
  replace hB := hB.trans (hB2.mono hB.size)
  clear hB2
  refine GV.call (R := fun v _ => v = .int .i64 0) [.agg #[.bool s4, .slice o4 k4 c4, .slice p4 l4 d4], v6] Tryz.func15 rfl namesOK rfl ⟨_, _, rfl, rfl, rfl⟩ rfl rfl rfl rfl ((cmpR_calls w7 _ _ (ruinG (fr 1 2) k n) (((k * (n - k) : Nat) : Int) : Rat) 300 (HX10.out.below hB).rat hr6 (ruin_le (fr_le (by decide) (by decide)) hn2 hkn).2 ((pasc_le hn2 hkn).mono (by decide)) (by decide)).mono ?c3) ?_
  case c3 =>
    rintro e w' ⟨rfl, hb⟩
    exact ⟨_, rfl, by rw [sgn_same (half_g hkn)], hb⟩
  rintro v7 w8 rfl hB2
  replace hB := hB.trans (hB2.mono hB.size)
  clear hB2 hr6
  refine GV.neq (p := 0) (q := 0) (b := false) rfl rfl ⟨_, _, rfl, rfl, rfl⟩ rfl rfl rfl rfl ?_
  refine GV.pick (b := false) (v := .bool false) rfl rfl rfl trivial rfl rfl ?_
  refine GV.done ?_
  simp only [putAll, Go.Act.put, List.setIfInBounds_toArray, List.set_cons_succ, List.set_cons_zero]
  clear HX7 HX9 HX10 HX12
  replace HB := Hid.intro (HB.out.trans (hB.mono HB.out.size))
  clear hB
  obtain ⟨l, hlE, hl1, hl2⟩ := pasc_l b
  obtain ⟨A, hAE, hneA, hA1, hA2⟩ := pasc_a a l hl1 hl2
  rw [← hlE] at hneA
  have HLE := Hid.intro hlE
  have HAE := Hid.intro hAE
  clear hlE hAE hne
  gi_wp2_with (gi_at_call 13; refine stop ?_)
  unfold Stop
  rw [HLE.out, HAE.out]
  clear hneA
  refine (make_calls w8 (A : Int) (l : Int) (by omega) (by omega) (by omega) (by omega) (by omega)).mono ?_
  rintro e w9 ⟨v9, rfl, hr9, hB⟩
  replace hr9 : RatAt w9 v9 (fr A l) := hr9
  replace HB := Hid.intro (HB.out.trans (hB.mono HB.out.size))
  obtain ⟨s9, o9, k9, c9, p9, l9, d9, rfl⟩ := hr9.form'
  have HR9 := Hid.intro hr9
  clear hr9 hB
  obtain ⟨Q, hQ⟩ : ∃ Q, l - A = Q := ⟨_, rfl⟩
  have HSB : Hid ((l : Int) - (A : Int) = (Q : Int)) := Hid.intro (by omega)
  have HQ := Hid.intro hQ
  have hQ1 : 1 ≤ Q := by omega
  have hQ2 : Q < l := by omega
  clear hQ
  gi_wp2_with (gi_at_call 13; refine stop ?_)
  unfold Stop
  obtain ⟨W16, hW⟩ : ∃ W, w9.alloc (.cells #[.bool s9, .slice o9 k9 c9, .slice p9 l9 d9] 27) = W := ⟨_, rfl⟩
  have hbx : Below w9.heap.size w9 W16 := by rw [← hW]; exact alloc_below _ _
  replace HB := Hid.intro (HB.out.trans (hbx.mono HB.out.size))
  have HX16 := Hid.intro (show BoxV W16 w9.heap.size s9 o9 k9 c9 p9 l9 d9 _ by rw [← hW]; exact boxV_new HR9.out)
  rw [hW]
  obtain ⟨g16, hg⟩ : ∃ g, w9.heap.size = g := ⟨_, rfl⟩
  rw [hg] at HX16
  rw [hg]
  clear hW hg hbx HR9
  rw [HSB.out]
  clear HSB
  refine (make_calls W16 (Q : Int) (l : Int) (by omega) (by omega) (by omega) (by omega) (by omega)).mono ?_
  rintro e w10 ⟨v10, rfl, hr10, hB⟩
  replace hr10 : RatAt w10 v10 (fr Q l) := hr10
  replace HX16 := Hid.intro (HX16.out.below hB)
  replace HB := Hid.intro (HB.out.trans (hB.mono HB.out.size))
  obtain ⟨s10, o10, k10, c10, p10, l10, d10, rfl⟩ := hr10.form'
  have HR10 := Hid.intro hr10
  clear hr10 hB
  have y160 := HX16.out.box.c0
  have y161 := HX16.out.box.c1
  have y162 := HX16.out.box.c2
  have hl16 := HX16.out.box.lt
  gi_wp2_with (gi_at_call 14; refine stop ?_)
  unfold Stop
  obtain ⟨W18, hW⟩ : ∃ W, w10.alloc (.cells #[.bool s10, .slice o10 k10 c10, .slice p10 l10 d10] 27) = W := ⟨_, rfl⟩
  have hbx : Below w10.heap.size w10 W18 := by rw [← hW]; exact alloc_below _ _
  replace HX16 := Hid.intro (HX16.out.below hbx)
  replace HB := Hid.intro (HB.out.trans (hbx.mono HB.out.size))
  have HX18 := Hid.intro (show BoxV W18 w10.heap.size s10 o10 k10 c10 p10 l10 d10 _ by rw [← hW]; exact boxV_new HR10.out)
  rw [hW]
  obtain ⟨g18, hg⟩ : ∃ g, w10.heap.size = g := ⟨_, rfl⟩
  rw [hg] at HX18
  rw [hg]
  clear hW hg hbx HR10
  clear y160 y161 y162 hl16
  refine (ruin_calls W18 _ (fr A l) k n HX16.out.rat (fr_le (by omega) (by omega)) (fr_short (by omega) (by omega) (by omega) (by omega)) (fr_pos (by omega) (by omega)) (fr_lt (by omega)) hn1 hn2 hkn (HL.out.pow.below HB.out)).mono ?_
  rintro e w11 ⟨v11, v12, rfl, hr11, hr12, hB⟩
  replace HX16 := Hid.intro (HX16.out.below hB)
  replace HX18 := Hid.intro (HX18.out.below hB)
  replace HB := Hid.intro (HB.out.trans (hB.mono HB.out.size))
  obtain ⟨s11, o11, k11, c11, p11, l11, d11, rfl⟩ := hr11.form'
  have HR11 := Hid.intro hr11
  obtain ⟨s12, o12, k12, c12, p12, l12, d12, rfl⟩ := hr12.form'
  have HR12 := Hid.intro hr12
  clear hr11 hr12 hB
  have y180 := HX18.out.box.c0
  have y181 := HX18.out.box.c1
  have y182 := HX18.out.box.c2
  have hl18 := HX18.out.box.lt
  obtain ⟨j, hj⟩ : ∃ j, n - k = j := ⟨_, rfl⟩
  have HSB : Hid ((n : Int) - (k : Int) = (j : Int)) := Hid.intro (by omega)
  have HJ := Hid.intro hj
  have hj1 : j ≤ n := by omega
  clear hj
  gi_wp2_with (gi_at_call 14; refine stop ?_)
  unfold Stop
  obtain ⟨W20, hW⟩ : ∃ W, w11.alloc (.cells #[.bool s11, .slice o11 k11 c11, .slice p11 l11 d11] 27) = W := ⟨_, rfl⟩
  have hbx : Below w11.heap.size w11 W20 := by rw [← hW]; exact alloc_below _ _
  replace HX16 := Hid.intro (HX16.out.below hbx)
  replace HX18 := Hid.intro (HX18.out.below hbx)
  replace HB := Hid.intro (HB.out.trans (hbx.mono HB.out.size))
  have HX20 := Hid.intro (show BoxV W20 w11.heap.size s11 o11 k11 c11 p11 l11 d11 _ by rw [← hW]; exact boxV_new HR11.out)
  rw [hW]
  obtain ⟨g20, hg⟩ : ∃ g, w11.heap.size = g := ⟨_, rfl⟩
  rw [hg] at HX20
  rw [hg]
  have hsz : W20.heap.size = g20 + 1 := by rw [← hg, ← hW]; simp
  replace HR12 := Hid.intro (HR12.out.below hbx)
  clear hW hg hbx HR11
  obtain ⟨W21, hW⟩ : ∃ W, W20.alloc (.cells #[.bool s12, .slice o12 k12 c12, .slice p12 l12 d12] 27) = W := ⟨_, rfl⟩
  have hbx : Below W20.heap.size W20 W21 := by rw [← hW]; exact alloc_below _ _
  replace HX16 := Hid.intro (HX16.out.below hbx)
  replace HX18 := Hid.intro (HX18.out.below hbx)
  replace HX20 := Hid.intro (HX20.out.below hbx)
  replace HB := Hid.intro (HB.out.trans (hbx.mono HB.out.size))
  have HX21 := Hid.intro (show BoxV W21 W20.heap.size s12 o12 k12 c12 p12 l12 d12 _ by rw [← hW]; exact boxV_new HR12.out)
  rw [hW]
  obtain ⟨g21, hg⟩ : ∃ g, W20.heap.size = g := ⟨_, rfl⟩
  rw [hg] at HX21
  rw [← hsz, hg]
  clear hsz hW hg hbx HR12
  clear y180 y181 y182 hl18
  rw [HSB.out]
  clear HSB
  refine (ruin_calls W21 _ (fr Q l) j n HX18.out.rat (fr_le (by omega) (by omega)) (fr_short (by omega) (by omega) (by omega) (by omega)) (fr_pos (by omega) (by omega)) (fr_lt (by omega)) hn1 hn2 (by omega) (HL.out.pow.below HB.out)).mono ?_
  rintro e w13 ⟨v13, v14, rfl, hr13, hr14, hB⟩
  replace HX16 := Hid.intro (HX16.out.below hB)
  replace HX18 := Hid.intro (HX18.out.below hB)
  replace HX20 := Hid.intro (HX20.out.below hB)
  replace HX21 := Hid.intro (HX21.out.below hB)
  replace HB := Hid.intro (HB.out.trans (hB.mono HB.out.size))
  obtain ⟨s13, o13, k13, c13, p13, l13, d13, rfl⟩ := hr13.form'
  have HR13 := Hid.intro hr13
  obtain ⟨s14, o14, k14, c14, p14, l14, d14, rfl⟩ := hr14.form'
  have HR14 := Hid.intro hr14
  clear hr13 hr14 hB
  have y200 := HX20.out.box.c0
  have y201 := HX20.out.box.c1
  have y202 := HX20.out.box.c2
  have hl20 := HX20.out.box.lt
  gi_wp2_with (gi_at_call 17; refine stop ?_)
  unfold Stop
  obtain ⟨W23, hW⟩ : ∃ W, w13.alloc (.cells #[.bool s13, .slice o13 k13 c13, .slice p13 l13 d13] 27) = W := ⟨_, rfl⟩
  have hbx : Below w13.heap.size w13 W23 := by rw [← hW]; exact alloc_below _ _
  replace HX16 := Hid.intro (HX16.out.below hbx)
  replace HX18 := Hid.intro (HX18.out.below hbx)
  replace HX20 := Hid.intro (HX20.out.below hbx)
  replace HX21 := Hid.intro (HX21.out.below hbx)
  replace HB := Hid.intro (HB.out.trans (hbx.mono HB.out.size))
  have HX23 := Hid.intro (show BoxV W23 w13.heap.size s13 o13 k13 c13 p13 l13 d13 _ by rw [← hW]; exact boxV_new HR13.out)
  rw [hW]
  obtain ⟨g23, hg⟩ : ∃ g, w13.heap.size = g := ⟨_, rfl⟩
  rw [hg] at HX23
  rw [hg]
  have hsz : W23.heap.size = g23 + 1 := by rw [← hg, ← hW]; simp
  replace HR14 := Hid.intro (HR14.out.below hbx)
  clear hW hg hbx HR13
  obtain ⟨W24, hW⟩ : ∃ W, W23.alloc (.cells #[.bool s14, .slice o14 k14 c14, .slice p14 l14 d14] 27) = W := ⟨_, rfl⟩
  have hbx : Below W23.heap.size W23 W24 := by rw [← hW]; exact alloc_below _ _
  replace HX16 := Hid.intro (HX16.out.below hbx)
  replace HX18 := Hid.intro (HX18.out.below hbx)
  replace HX20 := Hid.intro (HX20.out.below hbx)
  replace HX21 := Hid.intro (HX21.out.below hbx)
  replace HX23 := Hid.intro (HX23.out.below hbx)
  replace HB := Hid.intro (HB.out.trans (hbx.mono HB.out.size))
  have HX24 := Hid.intro (show BoxV W24 W23.heap.size s14 o14 k14 c14 p14 l14 d14 _ by rw [← hW]; exact boxV_new HR14.out)
  rw [hW]
  obtain ⟨g24, hg⟩ : ∃ g, W23.heap.size = g := ⟨_, rfl⟩
  rw [hg] at HX24
  rw [← hsz, hg]
  clear hsz hW hg hbx HR14
  clear y200 y201 y202 hl20
  have hT := ruin_turn (fr_pos (a := A) (b := l) (by omega) (by omega)) (fr_lt hA2) hkn (by omega : 0 < n)
  rw [← fr_compl (a := A) (b := l) (by omega) (by omega), HQ.out, HJ.out] at hT
  have HT1 := Hid.intro hT.1
  have HT2 := Hid.intro hT.2
  have HL1 := Hid.intro (ruin_le (p := fr A l) (k := k) (n := n) (fr_le (by omega) (by omega)) hn2 hkn)
  have HL2 := Hid.intro (ruin_le (p := fr Q l) (k := j) (n := n) (fr_le (by omega) (by omega)) hn2 (by omega))
  clear hT
  refine (addR_calls W24 _ _ (ruinC (fr A l) k n) (ruinC (fr Q l) j n) 300 HX20.out.rat HX23.out.rat HL1.out.1 HL2.out.1 (by decide) (by rw [HT1.out]; exact ratLe_one.mono (by decide)) (by rw [HT1.out]; exact kept_le (ratLe_one.mono (by decide))) (HL.out.pow.below HB.out)).mono ?_
  rintro e w15 ⟨v15, rfl, hr15, hB⟩
  rw [HT1.out] at hr15
  replace HX16 := Hid.intro (HX16.out.below hB)
  replace HX18 := Hid.intro (HX18.out.below hB)
  replace HX20 := Hid.intro (HX20.out.below hB)
  replace HX21 := Hid.intro (HX21.out.below hB)
  replace HX23 := Hid.intro (HX23.out.below hB)
  replace HX24 := Hid.intro (HX24.out.below hB)
  replace HB := Hid.intro (HB.out.trans (hB.mono HB.out.size))
  obtain ⟨s15, o15, k15, c15, p15, l15, d15, rfl⟩ := hr15.form'
  have HR15 := Hid.intro hr15
  clear hr15 hB
  gi_wp2_with (gi_at_call 18; refine stop ?_)
  unfold Stop
  obtain ⟨W26, hW⟩ : ∃ W, w15.alloc (.cells #[.bool s15, .slice o15 k15 c15, .slice p15 l15 d15] 27) = W := ⟨_, rfl⟩
  have hbx : Below w15.heap.size w15 W26 := by rw [← hW]; exact alloc_below _ _
  replace HX16 := Hid.intro (HX16.out.below hbx)
  replace HX18 := Hid.intro (HX18.out.below hbx)
  replace HX20 := Hid.intro (HX20.out.below hbx)
  replace HX21 := Hid.intro (HX21.out.below hbx)
  replace HX23 := Hid.intro (HX23.out.below hbx)
  replace HX24 := Hid.intro (HX24.out.below hbx)
  replace HB := Hid.intro (HB.out.trans (hbx.mono HB.out.size))
  have HX26 := Hid.intro (show BoxV W26 w15.heap.size s15 o15 k15 c15 p15 l15 d15 _ by rw [← hW]; exact boxV_new HR15.out)
  rw [hW]
  obtain ⟨g26, hg⟩ : ∃ g, w15.heap.size = g := ⟨_, rfl⟩
  rw [hg] at HX26
  rw [hg]
  clear hW hg hbx HR15
  refine (string_calls W26 _ 1 HX26.out.rat (ratLe_one.mono (by decide)) (HL.out.pow.below HB.out)).mono ?_
  rintro e w16 ⟨rfl, hB⟩
  rw [text_one]
  replace HX16 := Hid.intro (HX16.out.below hB)
  replace HX18 := Hid.intro (HX18.out.below hB)
  replace HX20 := Hid.intro (HX20.out.below hB)
  replace HX21 := Hid.intro (HX21.out.below hB)
  replace HX23 := Hid.intro (HX23.out.below hB)
  replace HX24 := Hid.intro (HX24.out.below hB)
  replace HX26 := Hid.intro (HX26.out.below hB)
  replace HB := Hid.intro (HB.out.trans (hB.mono HB.out.size))
  clear hB
  have y210 := HX21.out.box.c0
  have y211 := HX21.out.box.c1
  have y212 := HX21.out.box.c2
  have hl21 := HX21.out.box.lt
  have y240 := HX24.out.box.c0
  have y241 := HX24.out.box.c1
  have y242 := HX24.out.box.c2
  have hl24 := HX24.out.box.lt
  have hone := one_one w16
  gi_wp2_with (gi_at_call 15; refine stop ?_)
  unfold Stop
  clear y210 y211 y212 hl21 y240 y241 y242 hl24
  refine (cmpR_calls w16 _ _ (ruinG (fr A l) k n) (ruinG (fr Q l) j n) 300 HX21.out.rat HX24.out.rat HL1.out.2 HL2.out.2 (by decide)).mono ?_
  rintro e w17 ⟨rfl, hB⟩
  rw [sgn_same HT2.out]
  replace HX16 := Hid.intro (HX16.out.below hB)
  replace HX18 := Hid.intro (HX18.out.below hB)
  replace HX20 := Hid.intro (HX20.out.below hB)
  replace HX21 := Hid.intro (HX21.out.below hB)
  replace HX23 := Hid.intro (HX23.out.below hB)
  replace HX24 := Hid.intro (HX24.out.below hB)
  replace HX26 := Hid.intro (HX26.out.below hB)
  replace HB := Hid.intro (HB.out.trans (hB.mono HB.out.size))
  clear hB
  gi_wp2_with (gi_at_call 19; refine stop ?_)
  unfold Stop
  refine (awake_laid (HL.out.below HB.out) w17 (Below.refl _ _)).mono ?_
  rintro e w18 ⟨rfl, hB⟩
  replace HB := Hid.intro (HB.out.trans (hB.mono HB.out.size))
  gi_wp2
  all_goals (first | go_returns | go_ret | go_end0)
  exact ⟨rfl, HB.out⟩
end Go.Num
