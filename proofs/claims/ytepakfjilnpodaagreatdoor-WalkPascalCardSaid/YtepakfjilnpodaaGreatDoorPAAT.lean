/-
  'awake' answers true: one run of the machine in the kernel. 'isLong' of a fraction. 'isShort': a fraction that is at least 0 and has few dig
  Conditions: see each statement.
-/
import Derived.Test.YtepakfjilnpodaaGreatDoorPAAS
import Derived.Test.YtepakfjilnpodaaGreatDoorPAAR
import Derived.Test.YtepakfjilnpodaaGreatDoorCards
import Derived.Test.YtepakfjilnpodaaGreatDoorTie
import Derived.WalkKit
import Derived.ProofKit
import Derived.OpenShut
import Derived.Deep.DeepHandedRow
import Derived.Lib.LaidTab
import Derived.Stop.LaidErr
namespace Go.Num
open Go.Eng Go.Shelf Go.RowKit Go.Proofs Go.Proofs.YtepakfjilnpodaaGreatDoor

/-! ### Leaves -/
abbrev rs3 : List TypeId := [3, 116]
theorem RatAt.kept {w w' : World} {v : Value} {q : Rat} (h : RatAt w v q) (hk : Go.Eng.Kept rs3 w w') : RatAt w' v q := by
  obtain ⟨vn, vd, e, h1, h2⟩ := h
  exact ⟨vn, vd, e, h1.kept hk rfl, h2.kept hk rfl⟩
theorem QAt.kept {w w' : World} {v : Value} {q : Rat} (h : QAt w v q) (hk : Go.Eng.Kept rs3 w w') : QAt w' v q := by
  obtain ⟨m1, m2, e, h1, h2⟩ := h
  exact ⟨m1, m2, e, h1.kept hk rfl, h2.kept hk rfl⟩
def leafR (q : Rat) : Leaf rs3 where
  sh := .agg 3
  I := fun v w => RatAt w v q
  stable := fun _ _ _ hk h => h.kept hk
  ok := by
    rintro v w ⟨vn, vd, rfl, h1, h2⟩
    refine ⟨_, rfl, rfl, fun x hx => ?_⟩
    simp only [List.mem_cons, List.not_mem_nil, or_false] at hx
    rcases hx with rfl | rfl | rfl
    · rfl
    · exact h1.oneCell
    · exact h2.oneCell
  det := fun h => by cases h
def leafQ (q : Rat) : Leaf rs3 where
  sh := .agg 4
  I := fun v w => QAt w v q
  stable := fun _ _ _ hk h => h.kept hk
  ok := by
    rintro v w ⟨vn, vd, rfl, h1, h2⟩
    refine ⟨_, rfl, rfl, fun x hx => ?_⟩
    simp only [List.mem_cons, List.not_mem_nil, or_false] at hx
    rcases hx with rfl | rfl | rfl | rfl
    · rfl
    · exact h1.oneCell
    · rfl
    · exact h2.oneCell
  det := fun h => by cases h
def leafI (n : Int) : Leaf rs3 where
  sh := .one
  I := fun v _ => v = .int .i64 n
  stable := fun _ _ _ _ h => h
  ok := by rintro v w rfl; rfl
  det := fun h => by cases h
def leafS (s : ByteArray) : Leaf rs3 where
  sh := .str
  I := fun v _ => v = .string s
  stable := fun _ _ _ _ h => h
  ok := by rintro v w rfl; exact ⟨_, rfl⟩
  det := by rintro _ v v' w rfl rfl; rfl
/-- Pieces. -/
abbrev tg (k : Nat) : AT := .tag (.leaf k)
abbrev vi (n : Int) : AT := .val (.sc (.int .i64 n))
abbrev vb (b : Bool) : AT := .val (.sc (.bool b))
abbrev A1 (a : AT) : AT := .cons a .nil
abbrev A2 (a b : AT) : AT := .cons a (.cons b .nil)
abbrev A3 (a b c : AT) : AT := .cons a (.cons b (.cons c .nil))
abbrev shR : Sh := .agg 3
abbrev shQ : Sh := .agg 4

/-! ### What is kept -/
def keptQ (q : Rat) : Rat := if Kept1 q = true then q else 0
def keptE (q : Rat) : Int := if Kept1 q = true then 0 else 11
theorem attempt_any (w : World) (v : Value) (q : Rat) (h : RatAt w v q) (hq : RatLe q 100000) (htab : Pow10 w) :
    CallsIn Fence.wide 0 Tryz.prog 73 #[.func (.func 74) #[v] #[]] w fun e w' => ∃ v', e = .returned (.tuple #[v', .int .i64 (keptE q)]) ∧ RatAt w' v' (keptQ q) ∧ Below w.heap.size w w' := by
  unfold keptE keptQ
  cases hs : Kept1 q with
  | true => exact attempt_calls w v q h hq hs htab
  | false => exact attempt_panics w v q h hq hs htab

section
variable {w0 : World} {env : List (Leaf rs3)} {r : List Entry}
abbrev TI (w0 : World) (env : List (Leaf rs3)) (L : List Entry) : Prop := ToldIn Tryz.prog w0.heap.size w0 (Gs env) (lookT L)
theorem pk2 {G : Sett} {w : World} {a b : AT} {x y : Value} (h1 : PieceOK G a x w) (h2 : PieceOK G b y w) : PackOK G (A2 a b) (.tuple #[x, y]) w := ⟨_, rfl, _, _, rfl, h1, _, _, rfl, h2, rfl⟩
theorem pk3 {G : Sett} {w : World} {a b c : AT} {x y z : Value} (h1 : PieceOK G a x w) (h2 : PieceOK G b y w) (h3 : PieceOK G c z w) : PackOK G (A3 a b c) (.tuple #[x, y, z]) w := ⟨_, rfl, _, _, rfl, h1, _, _, rfl, h2, _, _, rfl, h3, rfl⟩
theorem ps1 {G : Sett} {w : World} {a : AT} {x : Value} (h1 : PieceOK G a x w) : PiecesOK G (A1 a) [x] w := ⟨_, _, rfl, h1, rfl⟩
theorem ps2 {G : Sett} {w : World} {a b : AT} {x y : Value} (h1 : PieceOK G a x w) (h2 : PieceOK G b y w) : PiecesOK G (A2 a b) [x, y] w := ⟨_, _, rfl, h1, _, _, rfl, h2, rfl⟩
theorem ps3 {G : Sett} {w : World} {a b c : AT} {x y z : Value} (h1 : PieceOK G a x w) (h2 : PieceOK G b y w) (h3 : PieceOK G c z w) : PiecesOK G (A3 a b c) [x, y, z] w := ⟨_, _, rfl, h1, _, _, rfl, h2, _, _, rfl, h3, rfl⟩
theorem un2 {G : Sett} {w : World} {a b : AT} {v : Value} (h : PackOK G (A2 a b) v w) : ∃ x y, v = .tuple #[x, y] ∧ PieceOK G a x w ∧ PieceOK G b y w := by
  obtain ⟨xs, rfl, x, r, e, h1, y, r2, rfl, h2, h3⟩ := h
  have h3 : r2 = [] := h3
  subst h3
  have : xs = #[x, y] := Array.toList_inj.1 (by simpa using e)
  subst this
  exact ⟨x, y, rfl, h1, h2⟩
theorem un3 {G : Sett} {w : World} {a b c : AT} {v : Value} (h : PackOK G (A3 a b c) v w) : ∃ x y z, v = .tuple #[x, y, z] ∧ PieceOK G a x w ∧ PieceOK G b y w ∧ PieceOK G c z w := by
  obtain ⟨xs, rfl, x, r, e, h1, y, r2, rfl, h2, z, r3, rfl, h3, h4⟩ := h
  have h4 : r3 = [] := h4
  subst h4
  have : xs = #[x, y, z] := Array.toList_inj.1 (by simpa using e)
  subst this
  exact ⟨x, y, z, rfl, h1, h2, h3⟩
/-- The entry of 'attempt' of 'kept'. -/
theorem told_attempt {i j k : Nat} {q : Rat} (hi : env[i]? = some (leafR q)) (hj : env[j]? = some (leafR (keptQ q))) (hk : env[k]? = some (leafI (keptE q))) (hq : RatLe q 100000) (htab : Pow10 w0) (K : TI w0 env r) :
    TI w0 env ((73, A1 (.fn 74 (A1 (tg i)) .nil), A2 (tg j) (tg k)) :: r) := by
  refine told_e1 ⟨_, Tryz.func73, rfl⟩ (fun w v hw hv => ?_) K
  obtain ⟨xs, ys, rfl, ⟨x, r1, e, h1, h2⟩, h3⟩ := hv
  have h2 : r1 = [] := h2
  subst h2
  have e1 : xs = #[x] := Array.toList_inj.1 (by simpa using e)
  have h3 : ys.toList = [] := h3
  have e2 : ys = #[] := Array.toList_inj.1 h3
  subst e1; subst e2
  have h1 : Leaf.at env (.leaf i) x w := h1
  unfold Leaf.at at h1
  simp only [hi] at h1
  refine (attempt_any w x q h1 hq (htab.below hw)).mono ?_
  rintro e w' ⟨v', rfl, hr, hB⟩
  refine ⟨_, rfl, pk2 ?_ ?_, hB⟩
  · show Leaf.at env (.leaf j) v' w'
    unfold Leaf.at
    simp only [hj]
    exact hr
  · show Leaf.at env (.leaf k) _ w'
    unfold Leaf.at
    simp only [hk]
    rfl
end

theorem addS_calls (w : World) (va vb : Value) (p q : Rat) (L : Nat) (ha : RatAt w va p) (hb : RatAt w vb q) (hp : RatLe p L) (hq : RatLe q L) (hL : L ≤ 1000000) (hr : RatLe (p + q) 100000) (htab : Pow10 w) :
    CallsIn Fence.wide 0 Tryz.prog 17 #[va, vb] w fun e w' => ∃ v', e = .returned (.tuple #[v', .int .i64 (keptE (p + q))]) ∧ RatAt w' v' (keptQ (p + q)) ∧ Below w.heap.size w w' := by
  have hT : TI w [leafR p, leafR q, leafR (p + q), leafR (keptQ (p + q)), leafI (keptE (p + q))] [(71, A2 (tg 0) (tg 1), A1 (tg 2)), (73, A1 (.fn 74 (A1 (tg 2)) .nil), A2 (tg 3) (tg 4))] := by
    refine told_e2 ⟨_, Tryz.func71, rfl⟩ (fun w1 v u hw hv hu => ?_) <| told_attempt rfl rfl rfl hr htab told_nil
    refine (plus_calls w1 v u p q L hv hu hp hq hL).mono ?_
    rintro e w' ⟨v', rfl, h1, h2⟩
    exact ⟨_, rfl, h1, h2⟩
  refine (run_script follows namesOK (S := [shR, shR, shR, shR, .one]) rfl hT (n := 50) (ts := A2 (tg 0) (tg 1)) (rs := A2 (tg 3) (tg 4)) (by kernel_rfl) (xs := #[va, vb]) (ps2 ha hb)).mono ?_
  rintro e w' ⟨x, rfl, hx, hB⟩
  obtain ⟨a, b, rfl, h1, h2⟩ := un2 hx
  have h2 : b = .int .i64 (keptE (p + q)) := h2
  subst h2
  exact ⟨a, rfl, h1, hB⟩
theorem mulS_calls (w : World) (va vb : Value) (p q : Rat) (L : Nat) (ha : RatAt w va p) (hb : RatAt w vb q) (hp : RatLe p L) (hq : RatLe q L) (hL : L ≤ 1000000) (hr : RatLe (p * q) 100000) (htab : Pow10 w) :
    CallsIn Fence.wide 0 Tryz.prog 44 #[va, vb] w fun e w' => ∃ v', e = .returned (.tuple #[v', .int .i64 (keptE (p * q))]) ∧ RatAt w' v' (keptQ (p * q)) ∧ Below w.heap.size w w' := by
  have hT : TI w [leafR p, leafR q, leafR (p * q), leafR (keptQ (p * q)), leafI (keptE (p * q))] [(111, A2 (tg 0) (tg 1), A1 (tg 2)), (73, A1 (.fn 74 (A1 (tg 2)) .nil), A2 (tg 3) (tg 4))] := by
    refine told_e2 ⟨_, Tryz.func111, rfl⟩ (fun w1 v u hw hv hu => ?_) <| told_attempt rfl rfl rfl hr htab told_nil
    refine (times_calls w1 v u p q L hv hu hp hq hL).mono ?_
    rintro e w' ⟨v', rfl, h1, h2⟩
    exact ⟨_, rfl, h1, h2⟩
  refine (run_script follows namesOK (S := [shR, shR, shR, shR, .one]) rfl hT (n := 50) (ts := A2 (tg 0) (tg 1)) (rs := A2 (tg 3) (tg 4)) (by kernel_rfl) (xs := #[va, vb]) (ps2 ha hb)).mono ?_
  rintro e w' ⟨x, rfl, hx, hB⟩
  obtain ⟨a, b, rfl, h1, h2⟩ := un2 hx
  have h2 : b = .int .i64 (keptE (p * q)) := h2
  subst h2
  exact ⟨a, rfl, h1, hB⟩
theorem quoS_calls (w : World) (va vb : Value) (p q : Rat) (L : Nat) (ha : RatAt w va p) (hb : RatAt w vb q) (hp : RatLe p L) (hq : RatLe q L) (hL : L ≤ 1000000) (hr : RatLe (p / q) 100000) (hq0 : q.num ≠ 0) (htab : Pow10 w) :
    CallsIn Fence.wide 0 Tryz.prog 45 #[va, vb] w fun e w' => ∃ v', e = .returned (.tuple #[v', .int .i64 (keptE (p / q))]) ∧ RatAt w' v' (keptQ (p / q)) ∧ Below w.heap.size w w' := by
  have hT : ∀ s, sgnR q = s → TI w [leafR p, leafR q, leafR (p / q), leafR (keptQ (p / q)), leafI (keptE (p / q))] [(25, A1 (tg 1), A1 (vi s)), (61, A2 (tg 0) (tg 1), A1 (tg 2)), (73, A1 (.fn 74 (A1 (tg 2)) .nil), A2 (tg 3) (tg 4))] := by
    intro s hs
    refine told_e1 ⟨_, Tryz.func25, rfl⟩ (fun w1 v hw hv => ?_) <| told_e2 ⟨_, Tryz.func61, rfl⟩ (fun w1 v u hw hv hu => ?_) <| told_attempt rfl rfl rfl hr htab told_nil
    · refine (sign_calls w1 v q hv).mono ?_
      rintro e w' ⟨rfl, h2⟩
      exact ⟨_, rfl, by rw [hs]; rfl, h2⟩
    · refine (over_calls w1 v u p q L hv hu hp hq hq0 hL).mono ?_
      rintro e w' ⟨v', rfl, h1, h2⟩
      exact ⟨_, rfl, h1, h2⟩
  have hR : CallsIn Fence.wide 0 Tryz.prog 45 #[va, vb] w fun e w' => ∃ x, e = .returned x ∧ PackOK (Gs [leafR p, leafR q, leafR (p / q), leafR (keptQ (p / q)), leafI (keptE (p / q))]) (A2 (tg 3) (tg 4)) x w' ∧ Below w.heap.size w w' := by
    rcases Int.lt_trichotomy q.num 0 with h | h | h
    · exact run_script follows namesOK (S := [shR, shR, shR, shR, .one]) rfl (hT (-1) (by unfold sgnR; rw [if_pos h])) (n := 50) (ts := A2 (tg 0) (tg 1)) (rs := A2 (tg 3) (tg 4)) (by kernel_rfl) (xs := #[va, vb]) (ps2 ha hb)
    · exact absurd h hq0
    · exact run_script follows namesOK (S := [shR, shR, shR, shR, .one]) rfl (hT 1 (by unfold sgnR; rw [if_neg (by omega), if_neg hq0])) (n := 50) (ts := A2 (tg 0) (tg 1)) (rs := A2 (tg 3) (tg 4)) (by kernel_rfl) (xs := #[va, vb]) (ps2 ha hb)
  refine hR.mono ?_
  rintro e w' ⟨x, rfl, hx, hB⟩
  obtain ⟨a, b, rfl, h1, h2⟩ := un2 hx
  have h2 : b = .int .i64 (keptE (p / q)) := h2
  subst h2
  exact ⟨a, rfl, h1, hB⟩
end Go.Num
namespace Go.Num
open Go.Eng Go.Shelf Go.RowKit Go.Sort Go.Proofs Go.Proofs.YtepakfjilnpodaaGreatDoor

def SmallQ (q : Rat) (d : Nat) : Bool := decide (Lib.nDigits q.num.natAbs ≤ d) && decide (Lib.nDigits q.den ≤ d)
set_option maxRecDepth 100000 in
set_option maxHeartbeats 8000000 in
/-- **'isLong'.** -/
theorem isLong_calls (w : World) (v : Value) (q : Rat) (h : RatAt w v q) (hq : RatLe q 100000) (htab : Pow10 w) :
    CallsIn Fence.wide 0 Tryz.prog 218 #[v] w fun e w' => e = .returned (.bool (!SmallQ q 20)) ∧ Below w.heap.size w w' := by
  obtain ⟨vn, vd, rfl, hn, hd⟩ := h
  have HN := Hid.intro hn
  have HD := Hid.intro hd
  obtain ⟨sg, hsg⟩ : ∃ sg, decide (q.num < 0) = sg := ⟨_, rfl⟩
  obtain ⟨o1, k1, c1, rfl, _, _⟩ := mag_len hn
  obtain ⟨o2, k2, c2, rfl, _, _⟩ := mag_len hd
  rw [hsg]
  obtain ⟨W1, hW1⟩ : ∃ W, W = w.alloc (.cells #[.bool sg, .slice o1 k1 c1, .slice o2 k2 c2] 27) := ⟨_, rfl⟩
  have HX : Hid (Box3 W1 w.heap.size (.bool sg) (.slice o1 k1 c1) (.slice o2 k2 c2)) := Hid.intro (by rw [hW1]; exact box3_new _ _ _ _ _)
  have HBW : Hid (Below w.heap.size w W1) := Hid.intro (by rw [hW1]; exact alloc_below _ _)
  have HP := Hid.intro hq
  have HTab := Hid.intro htab
  have y0 := HX.out.c0
  have y1 := HX.out.c1
  have y2 := HX.out.c2
  clear hn hd hsg hq htab
  refine callsIn_of_wp Tryz.func218 rfl trivial ?_ rfl
  simp only [Tryz.ntmps218, List.size_toArray, List.length_cons, List.length_nil, Nat.reduceAdd, Nat.reduceSub, Array.replicate_succ, Array.replicate_zero, List.push_toArray, List.append_toArray, List.nil_append, List.cons_append]
  rw [hW1] at y0 y1 y2
  gi_wp2_with (gi_at_call 141; refine stop ?_)
  unfold Stop
  rw [← hW1] at y0 y1 y2 ⊢
  obtain ⟨g, hg⟩ : ∃ g, w.heap.size = g := ⟨_, rfl⟩
  rw [hg] at HX y0 y1 y2
  rw [hg]
  clear hW1 hg
  refine (mString_calls W1 _ _ (HN.out.below HBW.out) HP.out.1 (HTab.out.below HBW.out)).mono ?_
  rintro e w2 ⟨rfl, hB⟩
  replace HX := Hid.intro (HX.out.below hB)
  replace HBW := Hid.intro (HBW.out.trans (hB.mono HBW.out.size))
  replace y0 := HX.out.c0
  replace y1 := HX.out.c1
  replace y2 := HX.out.c2
  obtain ⟨S, hS⟩ : ∃ S : ByteArray, (⟨(Lib.decDigits q.num.natAbs).toArray⟩ : ByteArray) = S := ⟨_, rfl⟩
  have hsz : S.size = Lib.nDigits q.num.natAbs := by rw [← hS, bytes_size, Lib.decDigits_length]
  rw [hS]
  obtain ⟨d, hd⟩ : ∃ d, Lib.nDigits q.num.natAbs = d := ⟨_, rfl⟩
  have HDd := Hid.intro hd
  rw [hd] at hsz
  clear hB hS hd
  by_cases hd20 : 20 < d
  · have hdd : decide ((d : Int) > 20) = true := decide_eq_true (by omega)
    have HS : Hid (SmallQ q 20 = false) := Hid.intro (by unfold SmallQ; rw [HDd.out, decide_eq_false (by omega)]; rfl)
    gi_wp2_with (exfalso; exact undef_no (by assumption))
    all_goals (first | go_returns | go_ret | go_end0)
    exact ⟨by rw [HS.out]; rfl, HBW.out⟩
  · have hdd : decide ((d : Int) > 20) = false := decide_eq_false (by omega)
    gi_wp2_with (gi_at_call 141; refine stop ?_)
    unfold Stop
    refine (mString_calls w2 _ _ (HD.out.below HBW.out) (by split; exact pow_pos' 100000; exact HP.out.2) (HTab.out.below HBW.out)).mono ?_
    rintro e w3 ⟨rfl, hB⟩
    replace HBW := Hid.intro (HBW.out.trans (hB.mono HBW.out.size))
    obtain ⟨S2, hS2⟩ : ∃ S : ByteArray, (⟨(Lib.decDigits (if q.den = 1 then 0 else q.den)).toArray⟩ : ByteArray) = S := ⟨_, rfl⟩
    have hsz2 : S2.size = Lib.nDigits (if q.den = 1 then 0 else q.den) := by rw [← hS2, bytes_size, Lib.decDigits_length]
    rw [hS2]
    have hde : Lib.nDigits (if q.den = 1 then 0 else q.den) = Lib.nDigits q.den := by
      split
      · rename_i h1; rw [h1, Lib.nDigits_small (show 0 < 10 by decide), Lib.nDigits_small (show 1 < 10 by decide)]
      · rfl
    rw [hde] at hsz2
    obtain ⟨d2, hd2⟩ : ∃ d2, Lib.nDigits q.den = d2 := ⟨_, rfl⟩
    have HS : Hid ((!SmallQ q 20) = decide (20 < d2)) := Hid.intro (by
      unfold SmallQ
      rw [HDd.out, hd2, decide_eq_true (by omega), Bool.true_and]
      by_cases h : d2 ≤ 20
      · rw [decide_eq_true h, decide_eq_false (by omega)]; rfl
      · rw [decide_eq_false h, decide_eq_true (by omega)]; rfl)
    rw [hd2] at hsz2
    clear hB hS2 hde hd2 y0 y1 y2
    gi_wp2
    all_goals (first | go_returns | go_ret | go_end0)
    refine ⟨?_, HBW.out⟩
    rw [HS.out]
    show Ending.returned (Value.bool (decide ((20 : Int) < (d2 : Int)))) = _
    rw [show decide ((20 : Int) < (d2 : Int)) = decide (20 < d2) from decide_eq_decide.2 (by omega)]

end Go.Num
namespace Go.Num
open Go.Eng Go.Shelf Go.RowKit Go.Proofs Go.Proofs.YtepakfjilnpodaaGreatDoor

/-- A number as a tag. -/
def cR (q : Rat) : Tg := match q.num with
  | .ofNat a => .bin 50 (.leaf a) (.leaf q.den)
  | .negSucc a => .bin 51 (.leaf (a + 1)) (.leaf q.den)
def dR : Tg → Option Rat
  | .bin k (.leaf a) (.leaf b) => bif Nat.beq k 50 then some (mkRat (.ofNat a) b) else bif Nat.beq k 51 then some (mkRat (-(.ofNat a)) b) else none
  | _ => none
theorem dR_cR (q : Rat) : dR (cR q) = some q := by
  have h : mkRat q.num q.den = q := Rat.mkRat_self q
  unfold cR
  split
  · rename_i a e
    rw [e] at h
    show some (mkRat (.ofNat a) q.den) = some q
    rw [h]
  · rename_i a e
    rw [e] at h
    have h2 : some (mkRat (Int.negSucc a) q.den) = some q := by rw [h]
    exact h2
abbrev rs1 : List TypeId := [116]
theorem RatAt.kept1 {w w' : World} {v : Value} {q : Rat} (h : RatAt w v q) (hk : Go.Eng.Kept rs1 w w') : RatAt w' v q := by
  obtain ⟨vn, vd, e, h1, h2⟩ := h
  exact ⟨vn, vd, e, h1.kept hk rfl, h2.kept hk rfl⟩
def IR1 (t : Tg) (v : Value) (w : World) : Prop := match dR t with
  | some q => RatAt w v q
  | none => False
def GR : Sett where
  ids := []
  res := rs1
  I := IR1
  stable := by
    intro t v w w' hk h
    unfold IR1 at h ⊢
    split at h
    · exact h.kept1 hk
    · exact h.elim
def clsR (t : Tg) : Sh := match dR t with
  | some _ => .agg 3
  | none => .one
theorem shapedR : Shaped GR clsR where
  ok := by
    intro t v w h
    replace h : IR1 t v w := h
    unfold IR1 at h
    unfold clsR
    split at h
    · rename_i q e
      exact (leafR q).ok v w h
    · exact h.elim
  det := by
    intro t ht
    unfold clsR at ht
    split at ht <;> cases ht
theorem pR {w : World} {v : Value} {q : Rat} (h : RatAt w v q) : PieceOK GR (.tag (cR q)) v w := by
  show IR1 (cR q) v w
  unfold IR1
  rw [dR_cR]
  exact h
theorem uR {w : World} {v : Value} {t : Tg} {q : Rat} (hq : dR t = some q) (h : PieceOK GR (.tag t) v w) : RatAt w v q := by
  have h : IR1 t v w := h
  unfold IR1 at h
  rw [hq] at h
  exact h
def sm (q : Rat) : Bool := Nat.blt q.num.natAbs 1000000000 && Nat.blt q.den 1000000000
theorem sm_le {q : Rat} (h : sm q = true) : RatLe q 1 := by
  unfold sm at h
  rw [Bool.and_eq_true] at h
  exact ⟨by rw [Nat.pow_one]; exact bltN_lt h.1, by rw [Nat.pow_one]; exact bltN_lt h.2⟩
theorem sm_kept {q : Rat} (h : sm q = true) : Kept1 q = true := by
  unfold sm at h
  rw [Bool.and_eq_true] at h
  have h1 := nDigits_9 (bltN_lt h.1)
  have h2 := nDigits_9 (bltN_lt h.2)
  unfold Kept1 SmallN
  rw [Bool.and_eq_true]
  refine ⟨decide_eq_true (by omega), decide_eq_true ?_⟩
  split
  · have := nDigits_9 (show 0 < 1000000000 by decide); omega
  · omega
def lN (n : Nat) : List UInt8 := decF 20 n []
def lZ (z : Int) : List UInt8 := match z with
  | .ofNat a => lN a
  | .negSucc a => 45 :: lN (a + 1)
def lQ (q : Rat) : List UInt8 := bif Nat.beq q.den 1 then lZ q.num else lZ q.num ++ 47 :: lN q.den
theorem lN_is {n : Nat} (h : n < 1000000000) : lN n = Lib.decDigits n := dec_fuel (k := 1) (by rw [Nat.pow_one]; exact h) (by decide) (by decide)
theorem lZ_is {z : Int} (h : z.natAbs < 1000000000) : lZ z = Lib.itoa z := by
  unfold lZ Lib.itoa
  split
  · rename_i a
    have h0 : ¬ (Int.ofNat a < 0) := by show ¬ ((a : Int) < 0); omega
    rw [if_neg h0, lN_is (by simpa using h)]
    rfl
  · rename_i a
    rw [if_pos (Int.negSucc_lt_zero a), lN_is (by simpa using h)]
    rfl
theorem lQ_is {q : Rat} (h : sm q = true) : textQ q = ⟨⟨lQ q⟩⟩ := by
  unfold sm at h
  rw [Bool.and_eq_true] at h
  unfold textQ lQ textZ
  cases e : Nat.beq q.den 1 with
  | true =>
    rw [if_pos (Nat.eq_of_beq_eq_true e), cond_true, lZ_is (bltN_lt h.1)]
  | false =>
    rw [if_neg (fun e2 => by rw [e2] at e; cases e), cond_false, lZ_is (bltN_lt h.1), lN_is (bltN_lt h.2)]
def st (l : List UInt8) : AT := .val (.sc (.str ⟨⟨l⟩⟩))
def tR (q : Rat) : AT := .tag (cR q)
/-- Of one number. -/
def unR (f : FuncId) (p : Rat) : Option AT :=
  bif !sm p then none else
  bif Nat.beq f 66 then some (A1 (tR (-p))) else
  bif Nat.beq f 25 then some (A1 (vi (sgnR p))) else
  bif Nat.beq f 18 then some (A1 (st (lQ p))) else
  bif Nat.beq f 74 then some (A1 (tR p)) else
  bif Nat.beq f 218 then some (A1 (vb false)) else
  bif Nat.beq f 75 then some (A2 (st (lZ p.num)) (st (lN p.den))) else none
/-- Of two numbers. -/
def biR (f : FuncId) (p q : Rat) : Option AT :=
  bif !(sm p && sm q) then none else
  bif Nat.beq f 17 then (bif sm (p + q) then some (A2 (tR (p + q)) (vi 0)) else none) else
  bif Nat.beq f 71 then some (A1 (tR (p + q))) else
  bif Nat.beq f 44 then (bif sm (p * q) then some (A2 (tR (p * q)) (vi 0)) else none) else
  bif Nat.beq f 111 then some (A1 (tR (p * q))) else
  bif Nat.beq f 15 then some (A1 (vi (sgnR (p - q)))) else
  bif Nat.beq q.num.natAbs 0 then none else
  bif Nat.beq f 45 then (bif sm (p / q) then some (A2 (tR (p / q)) (vi 0)) else none) else
  bif Nat.beq f 61 then some (A1 (tR (p / q))) else none
def zAV : AV := .agg (.cons (.sc (.bool false)) (.cons (.sc .nilSlice) (.cons (.sc .nilSlice) .nil)))
def numT : AT → Option Rat
  | .tag t => dR t
  | .val (.agg cs) => bif (AV.agg cs).beq zAV then some 0 else none
  | _ => none
def intT : AT → Option Int
  | .val (.sc (.int .i64 n)) => some n
  | _ => none
def TR : TTab := fun f ts =>
  match ts with
  | .cons a .nil => (match numT a with
    | some p => unR f p
    | none => match intT a with
      | some n => bif Nat.beq f 16 && Nat.blt n.natAbs 1000000000 then some (A1 (tR (n : Rat))) else none
      | none => none)
  | .cons a (.cons b .nil) => (match numT a, numT b with
    | some p, some q => biR f p q
    | _, _ => match intT a, intT b with
      | some n, some m => bif Nat.beq f 13 && Nat.blt n.natAbs 1000000000 && Nat.blt m.natAbs 1000000000 && !Nat.beq m.natAbs 0 then some (A2 (tR ((n : Rat) / (m : Rat))) (vi 0)) else none
      | _, _ => none)
  | _ => none
theorem numT_ok {w : World} {a : AT} {v : Value} {q : Rat} (hq : numT a = some q) (h : PieceOK GR a v w) : RatAt w v q := by
  unfold numT at hq
  split at hq
  · exact uR hq h
  · rename_i cs
    cases e : (AV.agg cs).beq zAV with
    | false => rw [e] at hq; cases hq
    | true =>
      rw [e] at hq
      cases hq
      have := AV.beq_eq e
      have h : (AV.agg cs).closed = some v := h
      rw [this] at h
      cases h
      exact ratAt_zero w
  · cases hq
theorem intT_ok {w : World} {a : AT} {v : Value} {n : Int} (hq : intT a = some n) (h : PieceOK GR a v w) : v = .int .i64 n := by
  unfold intT at hq
  split at hq
  · cases hq
    have h : some (Value.int .i64 _) = some v := h
    cases h; rfl
  · cases hq
theorem body_at {f : FuncId} {fn : Func} (h : Tryz.prog.funcs[f]? = some fn) (hb : fn.body.isSome = true) : ∃ fn : Func, Tryz.prog.funcs[f]? = some fn ∧ fn.body.isSome = true := ⟨fn, h, hb⟩
theorem bif_f {f k : Nat} {a b : Option AT} {r : AT} (h : (bif Nat.beq f k then a else b) = some r) : (f = k ∧ a = some r) ∨ b = some r := by
  cases e : Nat.beq f k with
  | true => rw [e] at h; exact .inl ⟨Nat.eq_of_beq_eq_true e, h⟩
  | false => rw [e] at h; exact .inr h
theorem bif_t {c : Bool} {a : Option AT} {r : AT} (h : (bif c then a else none) = some r) : c = true ∧ a = some r := by
  cases c with
  | true => exact ⟨rfl, h⟩
  | false => cases h
theorem bif_n {c : Bool} {b : Option AT} {r : AT} (h : (bif c then none else b) = some r) : c = false ∧ b = some r := by
  cases c with
  | true => cases h
  | false => exact ⟨rfl, h⟩
abbrev RetOK (w : World) (rs : AT) (e : Ending) (w' : World) : Prop := ∃ x, e = .returned x ∧ PackOK GR rs x w' ∧ Below w.heap.size w w'
theorem unR_told {f : FuncId} {p : Rat} {rs : AT} (h : unR f p = some rs) : (∃ fn : Func, Tryz.prog.funcs[f]? = some fn ∧ fn.body.isSome = true) ∧ ∀ w v, RatAt w v p → Pow10 w → CallsIn Fence.wide 0 Tryz.prog f #[v] w (RetOK w rs) := by
  unfold unR at h
  obtain ⟨hs, h⟩ := bif_n h
  have hs : sm p = true := by simpa using hs
  have hL : RatLe p 100000 := (sm_le hs).mono (by decide)
  rcases bif_f h with ⟨rfl, h⟩ | h
  · cases h
    refine ⟨⟨_, Tryz.func66, rfl⟩, fun w v hv _ => (neg_calls w v p hv).mono ?_⟩
    rintro e w' ⟨x, rfl, hr, hb⟩
    exact ⟨x, rfl, pR hr, hb⟩
  rcases bif_f h with ⟨rfl, h⟩ | h
  · cases h
    refine ⟨⟨_, Tryz.func25, rfl⟩, fun w v hv _ => (sign_calls w v p hv).mono ?_⟩
    rintro e w' ⟨rfl, hb⟩
    exact ⟨_, rfl, rfl, hb⟩
  rcases bif_f h with ⟨rfl, h⟩ | h
  · cases h
    refine ⟨⟨_, Tryz.func18, rfl⟩, fun w v hv ht => (string_calls w v p hv hL ht).mono ?_⟩
    rintro e w' ⟨rfl, hb⟩
    exact ⟨_, rfl, by rw [lQ_is hs]; rfl, hb⟩
  rcases bif_f h with ⟨rfl, h⟩ | h
  · cases h
    refine ⟨⟨_, Tryz.func74, rfl⟩, fun w v hv ht => (kept_calls w v p hv hL (sm_kept hs) ht).mono ?_⟩
    rintro e w' ⟨x, rfl, hr, hb⟩
    exact ⟨x, rfl, pR hr, hb⟩
  rcases bif_f h with ⟨rfl, h⟩ | h
  · cases h
    refine ⟨⟨_, Tryz.func218, rfl⟩, fun w v hv ht => (isLong_calls w v p hv hL ht).mono ?_⟩
    rintro e w' ⟨rfl, hb⟩
    have hq : SmallQ p 20 = true := by
      unfold sm at hs
      rw [Bool.and_eq_true] at hs
      have h1 := nDigits_9 (bltN_lt hs.1)
      have h2 := nDigits_9 (bltN_lt hs.2)
      unfold SmallQ
      rw [decide_eq_true (by omega), decide_eq_true (by omega)]; rfl
    rw [hq]
    exact ⟨_, rfl, rfl, hb⟩
  rcases bif_f h with ⟨rfl, h⟩ | h
  · cases h
    refine ⟨⟨_, Tryz.func75, rfl⟩, fun w v hv ht => (parts_calls w v p hv hL ht).mono ?_⟩
    rintro e w' ⟨rfl, hb⟩
    unfold sm at hs
    rw [Bool.and_eq_true] at hs
    refine ⟨_, rfl, pk2 ?_ ?_, hb⟩
    · show some (Value.string ⟨⟨lZ p.num⟩⟩) = _
      rw [lZ_is (bltN_lt hs.1)]; rfl
    · show some (Value.string ⟨⟨lN p.den⟩⟩) = _
      rw [lN_is (bltN_lt hs.2)]; rfl
  · cases h
theorem biR_told {f : FuncId} {p q : Rat} {rs : AT} (h : biR f p q = some rs) : (∃ fn : Func, Tryz.prog.funcs[f]? = some fn ∧ fn.body.isSome = true) ∧ ∀ w v u, RatAt w v p → RatAt w u q → Pow10 w → CallsIn Fence.wide 0 Tryz.prog f #[v, u] w (RetOK w rs) := by
  unfold biR at h
  obtain ⟨hs, h⟩ := bif_n h
  have hs : sm p = true ∧ sm q = true := by simpa using hs
  have hp := sm_le hs.1
  have hq := sm_le hs.2
  rcases bif_f h with ⟨rfl, h⟩ | h
  · obtain ⟨h1, h⟩ := bif_t h
    cases h
    refine ⟨⟨_, Tryz.func17, rfl⟩, fun w v u hv hu ht => (addR_calls w v u p q 1 hv hu hp hq (by decide) ((sm_le h1).mono (by decide)) (sm_kept h1) ht).mono ?_⟩
    rintro e w' ⟨x, rfl, hr, hb⟩
    exact ⟨_, rfl, pk2 (pR hr) rfl, hb⟩
  rcases bif_f h with ⟨rfl, h⟩ | h
  · cases h
    refine ⟨⟨_, Tryz.func71, rfl⟩, fun w v u hv hu ht => (plus_calls w v u p q 1 hv hu hp hq (by decide)).mono ?_⟩
    rintro e w' ⟨x, rfl, hr, hb⟩
    exact ⟨_, rfl, pR hr, hb⟩
  rcases bif_f h with ⟨rfl, h⟩ | h
  · obtain ⟨h1, h⟩ := bif_t h
    cases h
    refine ⟨⟨_, Tryz.func44, rfl⟩, fun w v u hv hu ht => (mulR_calls w v u p q 1 hv hu hp hq (by decide) ((sm_le h1).mono (by decide)) (sm_kept h1) ht).mono ?_⟩
    rintro e w' ⟨x, rfl, hr, hb⟩
    exact ⟨_, rfl, pk2 (pR hr) rfl, hb⟩
  rcases bif_f h with ⟨rfl, h⟩ | h
  · cases h
    refine ⟨⟨_, Tryz.func111, rfl⟩, fun w v u hv hu ht => (times_calls w v u p q 1 hv hu hp hq (by decide)).mono ?_⟩
    rintro e w' ⟨x, rfl, hr, hb⟩
    exact ⟨_, rfl, pR hr, hb⟩
  rcases bif_f h with ⟨rfl, h⟩ | h
  · cases h
    refine ⟨⟨_, Tryz.func15, rfl⟩, fun w v u hv hu ht => (cmpR_calls w v u p q 1 hv hu hp hq (by decide)).mono ?_⟩
    rintro e w' ⟨rfl, hb⟩
    exact ⟨_, rfl, rfl, hb⟩
  obtain ⟨h0, h⟩ := bif_n h
  have hq0 : q.num ≠ 0 := by
    intro e
    rw [e] at h0
    cases h0
  rcases bif_f h with ⟨rfl, h⟩ | h
  · obtain ⟨h1, h⟩ := bif_t (c := sm (p / q)) (a := some (A2 (tR (p / q)) (vi 0))) h
    cases h
    refine ⟨⟨_, Tryz.func45, rfl⟩, fun w v u hv hu ht => (quoR_calls w v u p q 1 hv hu hp hq hq0 (by decide) ((sm_le h1).mono (by decide)) (sm_kept h1) ht).mono ?_⟩
    rintro e w' ⟨x, rfl, hr, hb⟩
    exact ⟨_, rfl, pk2 (pR hr) rfl, hb⟩
  rcases bif_f h with ⟨rfl, h⟩ | h
  · cases h
    refine ⟨⟨_, Tryz.func61, rfl⟩, fun w v u hv hu ht => (over_calls w v u p q 1 hv hu hp hq hq0 (by decide)).mono ?_⟩
    rintro e w' ⟨x, rfl, hr, hb⟩
    exact ⟨_, rfl, pR hr, hb⟩
  · cases h
def forceTg {β : Type} : Tg → (Tg → β) → β
  | .leaf n, k => fN n fun n => k (.leaf n)
  | .un n a, k => fN n fun n => forceTg a fun a => k (.un n a)
  | .bin n a b, k => fN n fun n => forceTg a fun a => forceTg b fun b => k (.bin n a b)
theorem forceTg_eq {β : Type} : ∀ (t : Tg) (k : Tg → β), forceTg t k = k t
  | .leaf n, k => by unfold forceTg; rw [fN_eq]
  | .un n a, k => by unfold forceTg; rw [fN_eq, forceTg_eq a]
  | .bin n a b, k => by unfold forceTg; rw [fN_eq, forceTg_eq a, forceTg_eq b]
def forceAT {β : Type} : AT → (AT → β) → β
  | .tag t, k => forceTg t fun t => k (.tag t)
  | .val v, k => v.force fun v => k (.val v)
  | .cons a b, k => forceAT a fun a => forceAT b fun b => k (.cons a b)
  | t, k => k t
theorem forceAT_eq {β : Type} : ∀ (t : AT) (k : AT → β), forceAT t k = k t
  | .tag t, k => by unfold forceAT; rw [forceTg_eq]
  | .val v, k => by unfold forceAT; rw [AV.force_eq]
  | .cons a b, k => by unfold forceAT; rw [forceAT_eq a, forceAT_eq b]
  | .agg _, _ => rfl
  | .fn _ _ _, _ => rfl
  | .nil, _ => rfl
def TF : TTab := fun f ts => match TR f ts with
  | some r => forceAT r some
  | none => none
theorem TF_eq : TF = TR := by
  funext f ts
  unfold TF
  cases TR f ts with
  | none => rfl
  | some r => exact forceAT_eq r some
/-- **What is told of numbers is true.** -/
theorem told_R {w0 : World} (ht : Pow10 w0) : ToldIn Tryz.prog w0.heap.size w0 GR TF := by
  rw [TF_eq]
  intro f ts rs h
  unfold TR at h
  split at h
  · rename_i a
    split at h
    · rename_i p hp
      obtain ⟨hb, hc⟩ := unR_told h
      refine ⟨hb, fun w xs hw hx => ?_⟩
      obtain ⟨v, r, e, h1, h2⟩ := hx
      have h2 : r = [] := h2
      subst h2
      have : xs = #[v] := Array.toList_inj.1 (by simpa using e)
      subst this
      exact callsIn_wide.1 (hc w v (numT_ok hp h1) (ht.below hw))
    · split at h
      · rename_i n hn'
        obtain ⟨hc, h⟩ := bif_t h
        cases h
        rw [Bool.and_eq_true] at hc
        obtain rfl := Nat.eq_of_beq_eq_true hc.1
        have hn := bltN_lt hc.2
        refine ⟨⟨_, Tryz.func16, rfl⟩, fun w xs hw hx => ?_⟩
        obtain ⟨v, r, e, h1, h2⟩ := hx
        have h2 : r = [] := h2
        subst h2
        have : xs = #[v] := Array.toList_inj.1 (by simpa using e)
        subst this
        obtain rfl := intT_ok hn' h1
        refine callsIn_wide.1 ((ofN_calls w n (by omega) (by omega)).mono ?_)
        rintro e w' ⟨x, rfl, hr, hb⟩
        exact ⟨_, rfl, pR hr, hb⟩
      · cases h
  · rename_i a b
    split at h
    · rename_i p q hp hq
      obtain ⟨hb, hc⟩ := biR_told h
      refine ⟨hb, fun w xs hw hx => ?_⟩
      obtain ⟨v, r, e, h1, u, r2, e2, h2, h3⟩ := hx
      subst e2
      have h3 : r2 = [] := h3
      subst h3
      have : xs = #[v, u] := Array.toList_inj.1 (by simpa using e)
      subst this
      exact callsIn_wide.1 (hc w v u (numT_ok hp h1) (numT_ok hq h2) (ht.below hw))
    · split at h
      · rename_i n m hn' hm'
        obtain ⟨hc, h⟩ := bif_t h
        cases h
        simp only [Bool.and_eq_true] at hc
        obtain ⟨⟨⟨hf, hn⟩, hm⟩, h0⟩ := hc
        obtain rfl := Nat.eq_of_beq_eq_true hf
        have hn := bltN_lt hn
        have hm := bltN_lt hm
        have hm0 : m ≠ 0 := by
          intro e
          subst e
          cases h0
        refine ⟨⟨_, Tryz.func13, rfl⟩, fun w xs hw hx => ?_⟩
        obtain ⟨v, r, e, h1, u, r2, e2, h2, h3⟩ := hx
        subst e2
        have h3 : r2 = [] := h3
        subst h3
        have : xs = #[v, u] := Array.toList_inj.1 (by simpa using e)
        subst this
        obtain rfl := intT_ok hn' h1
        obtain rfl := intT_ok hm' h2
        refine callsIn_wide.1 ((make_calls w n m (by omega) (by omega) (by omega) (by omega) hm0).mono ?_)
        rintro e w' ⟨x, rfl, hr, hb⟩
        exact ⟨_, rfl, pk2 (pR hr) rfl, hb⟩
      · cases h
  · cases h

def isTrue : Option (AV × AH) → Bool
  | some (.sc (.bool true), _) => true
  | _ => false
theorem awake_run : isTrue ((cb Tryz.prog [] (oracle clsR TF) [133, 139, 143, 146, 219] 3000).call 19 .nil (bare rs1)) = true := by kernel_rfl
theorem isTrue_eq {r : Option (AV × AH)} (h : isTrue r = true) : ∃ H, r = some (.sc (.bool true), H) := by
  unfold isTrue at h
  split at h
  · exact ⟨_, rfl⟩
  · cases h
theorem still_all : ∀ g ∈ [133, 139, 143, 146, 219], StillFn Tryz.prog g := by
  intro g hg
  simp at hg
  rcases hg with rfl | rfl | rfl | rfl | rfl
  · exact still_133
  · exact still_109
  · exact still_143
  · exact still_146
  · exact still_219
/-- **'awake'.** -/
theorem awake_calls {w : World} (h : Laid w) : Calls Tryz.prog 19 #[] w fun e w' => e = .returned (.bool true) ∧ Below w.heap.size w w' := by
  obtain ⟨H', hr⟩ := isTrue_eq awake_run
  refine (calls_of_run (G := GR) follows namesOK (oracle_ok shapedR (told_R h.pow)) still_all hr (bare_rep (G := GR) rfl w) (by rfl)).mono ?_
  rintro e w' ⟨x, μ', rfl, _, hx, hrep⟩
  have hx' : x = .bool true := hx
  exact ⟨by rw [hx'], hrep.below⟩
theorem awake_laid {w : World} (h : Laid w) : Awake w := fun _w' hb => callsIn_wide.2 (awake_calls (h.below hb))
end Go.Num
namespace Go.Num
open Go.ChangeShapes Go.WideShapes Go.ChangeAt Go.RowKit Go.Eng Go.Proofs Go.Proofs.YtepakfjilnpodaaGreatDoor

section
variable {H : Type} {enc : TypeId × Value → H} {P : Program}
/-- What a call that answers by scalars, and leaves what was there alone, gives of its row. -/
theorem post_of_below {f : Func} {s : ChangeSpec} {apart fresh handsOn again : Bool} {W W' : World} {args : Array Value} {v : Value} {ds gs : List (DataW H)} {before pa pv : List MemPlace}
    (hW : DataW.Whole enc P f.params.toList s.vars apart W args.toList ds gs before)
    (hres : ∀ (b : Nat) (sp : Nat → Bool) (hd : Bool), DataW.TrodAll enc P W' b sp hd f.resultTypes.toList (v.resultList f.resultTypes.size) (s.fn H (ds ++ gs)).results [])
    (hargs : ∀ sp : Nat → Bool, (∀ p ∈ before, sp p.block = true) → DataW.TrodAll enc P W' 0 sp true f.params.toList args.toList (s.fn H (ds ++ gs)).args pa)
    (hvars : ∀ sp : Nat → Bool, (∀ p ∈ before, sp p.block = true) → DataW.TrodVars enc P W' sp s.vars (s.fn H (ds ++ gs)).vars pv)
    (hps : before = pa ++ pv) (hb : Below W.heap.size W W')
    (hok : ∀ (j : Nat) (t : TypeId) (r : Value), f.resultTypes[j]? = some t → (v.resultList f.resultTypes.size)[j]? = some r → Value.okWide P W' .any 0 t r) :
    s.post enc P f apart fresh handsOn again W args v W' := by
  have hold : ∀ p ∈ before, (fun b => decide (b < W.heap.size)) p.block = true := fun p hp => by simpa using hW.lt p hp
  have hlt := hW.lt
  refine ⟨ds, gs, before, [], pa, pv, hW, hres _ _ _, hargs _ hold, hvars _ hold, World.keptBut_mono (fun p hp => ⟨hp, ?_⟩) (hb.frame (· ∈ before)), fun _ => ?_⟩
  · rw [hps, List.mem_append] at hp
    exact Or.inr hp
  · obtain ⟨_, _, _, _, _, hz, hn⟩ := hW
    refine ⟨hok, _, _, ([] ++ pa) ++ pv, ⟨[] ++ pa, pv, trodAll_append (hargs _ (fun _ _ => rfl)) (hres _ _ _), hvars _ (fun _ _ => rfl), rfl, ?_, ?_⟩, ?_⟩
    · intro b off hp
      have hp' : MemPlace.cell b off ∈ before := by rw [hps]; simpa using hp
      rw [hb.frozen (hlt _ hp')]
      exact hz b off hp'
    · intro ha
      have := hn ha
      rw [hps] at this
      simpa using this
    · intro p hp _
      rw [hps]
      simpa using hp
end


theorem own : ownKnob Tryz.prog.godebug = none := by kernel_rfl
theorem laidOut : laidOutB Tryz.prog = true := by kernel_rfl
theorem gPow : Tryz.prog.globalNamed "internal/strconv.uint64pow10" = some 1 := by kernel_rfl
theorem gPowT : (Tryz.prog.globals[1]?).map (·.type) = some 295 := by kernel_rfl
theorem u226 : Tryz.prog.underlying 295 = some (.array 20 116) := by kernel_rfl
theorem u111 : Tryz.prog.underlying 116 = some (.int .u64) := by kernel_rfl
theorem cells111 : Tryz.prog.cellsOf 116 = 1 := by kernel_rfl
theorem cells226 : Tryz.prog.cellsOf 295 = 20 := by kernel_rfl
/-- What the rows' list of variables gives. -/
theorem laid_of {l : List (String × DataW Unit)} {a b : String × DataW Unit} {r : List (String × DataW Unit)} {W : World} (e : l = a :: b :: ("internal/strconv.uint64pow10", Lib.tabData .u64 Lib.pow10Tab) :: r) (hf : (l.filter fun x => x.2.handleName?.isSome) = []) (h : laidMetH Tryz.prog l W) (hs : W.ShapedOpen Tryz.prog) : Laid W := by
  unfold laidMetH at h
  rw [hf] at h
  have h : laidMet Tryz.prog l W := h
  rw [e] at h
  exact ⟨Lib.tabIs_of_head gPow gPowT u226 u111 cells111 cells226 h.tail.tail, Tryz.laysM219.s1_3 W hs⟩

/-- Arguments read as they did. -/
theorem args_stay {H : Type} {enc : TypeId × Value → H} {W W' : World} {sp : Nat → Bool} (hl : laidOutB Tryz.prog = true) : ∀ {ts : List TypeId} {vs : List Value} {ds : List (DataW H)} {ps : List MemPlace},
    (∀ t ∈ ts, Tryz.prog.readableRec t = true ∧ t < Tryz.prog.types.size) → DataW.TrodAll enc Tryz.prog W 0 (fun _ => true) true ts vs ds ps → (∀ p ∈ ps, W.sameAt W' p) → (∀ p ∈ ps, sp p.block = true) → DataW.TrodAll enc Tryz.prog W' 0 sp true ts vs ds ps
  | [], vs, ds, ps, _, h, _, _ => by
    obtain ⟨rfl, rfl, rfl⟩ := trodAll_nil h
    exact trodAll_mk0
  | t :: ts, vs, ds, ps, hr, h, h1, h2 => by
    obtain ⟨v, vs', d, ds', p, q, rfl, rfl, rfl, hd, hrest⟩ := trodAll_cons h
    exact ⟨p, q, WideElems.Trod_stays hl (hr t (by simp)).1 (hr t (by simp)).2 hd (fun x hx => h1 x (by simp [hx])) (fun x hx => h2 x (by simp [hx])),
      args_stay hl (fun t' ht' => hr t' (by simp [ht'])) hrest (fun x hx => h1 x (by simp [hx])) (fun x hx => h2 x (by simp [hx])), rfl⟩


def db64 : List Int := [0, 1, 56, 2, 57, 49, 28, 3, 61, 58, 42, 50, 38, 29, 17, 4, 62, 47, 59, 36, 45, 43, 51, 22, 53, 39, 33, 30, 24, 18, 12, 5, 63, 55, 48, 27, 60, 41, 37, 16, 46, 35, 44, 21, 52, 32, 23, 11, 54, 26, 40, 15, 34, 20, 31, 10, 25, 14, 19, 9, 13, 8, 7, 6]
def db32 : List Int := [0, 1, 28, 2, 29, 14, 24, 3, 30, 22, 20, 15, 25, 17, 4, 8, 31, 27, 13, 23, 21, 19, 16, 7, 26, 12, 18, 6, 11, 5, 10, 9]
def acc16 : List Nat := [128, 191, 160, 191, 128, 159, 144, 191, 128, 143] ++ List.replicate 22 0
/-- A world for the witness: the settled one, the variables holding what their initialisers lay. -/
noncomputable def layCells (cs : Array Value) : Obj → Obj
  | .cells _ t frozen => .cells cs t frozen
  | o => o
def bytesOf (s : String) : ByteArray := s.toUTF8
noncomputable def laidWorld (os : Os) : World :=
  let w := World.holding Tryz.prog os ⟨#[], #[], []⟩
  let i := w.heap.size
  let w := (w.alloc (.cells #[.string ⟨#[105, 110, 118, 97, 108, 105, 100, 32, 115, 121, 110, 116, 97, 120]⟩] 313)).alloc (.cells #[.string ⟨#[118, 97, 108, 117, 101, 32, 111, 117, 116, 32, 111, 102, 32, 114, 97, 110, 103, 101]⟩] 313)
  { w with heap := (((((((w.heap.modify 2 (layCells #[.iface 311 (.pointer (some ⟨i, 0, none⟩))])).modify 3 (layCells #[.iface 311 (.pointer (some ⟨i + 1, 0, none⟩))])).modify 1 (layCells (Lib.pow10Tab.map (Value.int .u64)).toArray)).modify 4 (layCells (Pinned.utf8FirstZ.map fun (n : Nat) => Value.int .u8 (n : Int)).toArray)).modify 5 (layCells (acc16.map fun (n : Nat) => Value.int .u8 (n : Int)).toArray)).modify 6 (layCells (db32.map (Value.int .u8)).toArray)).modify 7 (layCells (db64.map (Value.int .u8)).toArray)) }
section
variable {H : Type} {enc : TypeId × Value → H} {W : World} {v : Value} {d : DataW H} {p : List MemPlace} {b0 : Nat}
theorem u22 : Tryz.prog.underlying 22 = some (.array 4 3) := by kernel_rfl
theorem cells22 : Tryz.prog.cellsOf 22 = 4 := by kernel_rfl
theorem cells3' : Tryz.prog.cellsOf 3 = 1 := by kernel_rfl
set_option maxRecDepth 100000 in
theorem four_open (hval : Value.okWide Tryz.prog W .any b0 22 v) (h : DataW.Trod enc Tryz.prog W 0 (fun _ => true) true 22 v d p) : ∃ a b c e : Int, v = .agg #[.int .i64 a, .int .i64 b, .int .i64 c, .int .i64 e] := by
  unfold Value.okWide at hval
  rw [u22] at hval
  obtain ⟨cs, rfl, hsz, _⟩ := hval
  rw [cells22] at hsz
  obtain ⟨fuel, hf⟩ := h
  have e : ∃ a b c e, cs = #[a, b, c, e] := by
    obtain ⟨l⟩ := cs
    match l, hsz with
    | [a, b, c, e], _ => exact ⟨a, b, c, e, rfl⟩
  obtain ⟨a, b, c, e, rfl⟩ := e
  obtain ⟨xs, m, _, _, _, hxl, hx⟩ := DataW.trod_array u22 hf
  have g0 := hx 0 (by omega)
  have g1 := hx 1 (by omega)
  have g2 := hx 2 (by omega)
  have g3 := hx 3 (by omega)
  rw [cells3', List.getElem?_eq_getElem (by omega)] at g0 g1 g2 g3
  simp [Value.cells] at g0 g1 g2 g3
  obtain ⟨a, ha, _⟩ := DataW.trod_int Tryz.underlying3 g0
  obtain ⟨b, hb, _⟩ := DataW.trod_int Tryz.underlying3 g1
  obtain ⟨c, hc, _⟩ := DataW.trod_int Tryz.underlying3 g2
  obtain ⟨e, he, _⟩ := DataW.trod_int Tryz.underlying3 g3
  simp only [List.cons.injEq, and_true] at ha hb hc he
  exact ⟨a, b, c, e, by rw [ha, hb, hc, he]⟩
end
end Go.Num
namespace Go.Num
open Go.Eng Go.Shelf Go.RowKit Go.Sort Go.Proofs Go.Proofs.YtepakfjilnpodaaGreatDoor

theorem undef_not {b : Bool} (h : some undef = some (Value.bool b)) : False := by
  have : undef = Value.bool b := Option.some.inj h
  cases this
def shortB (q : Rat) : Bool := decide (0 ≤ q.num) && SmallQ q 6
set_option maxRecDepth 100000 in
set_option maxHeartbeats 8000000 in
/-- **'isShort'.** -/
theorem isShort_calls (w : World) (v : Value) (q : Rat) (h : RatAt w v q) (hq : RatLe q 100000) (htab : Pow10 w) :
    CallsIn Fence.wide 0 Tryz.prog 62 #[v] w fun e w' => e = .returned (.bool (shortB q)) ∧ Below w.heap.size w w' := by
  have HR := Hid.intro h
  have HQ := Hid.intro hq
  have HTab := Hid.intro htab
  obtain ⟨o1, k1, c1, o2, k2, c2, rfl⟩ := h.form
  obtain ⟨sg, hsg⟩ : ∃ sg, decide (q.num < 0) = sg := ⟨_, rfl⟩
  rw [hsg] at HR
  rw [hsg]
  obtain ⟨W1, hW1⟩ : ∃ W, W = w.alloc (.cells #[.bool sg, .slice o1 k1 c1, .slice o2 k2 c2] 27) := ⟨_, rfl⟩
  have HX : Hid (Box3 W1 w.heap.size (.bool sg) (.slice o1 k1 c1) (.slice o2 k2 c2)) := Hid.intro (by rw [hW1]; exact box3_new _ _ _ _ _)
  have HBW : Hid (Below w.heap.size w W1) := Hid.intro (by rw [hW1]; exact alloc_below _ _)
  clear hq htab hsg
  refine callsIn_of_wp Tryz.func62 rfl trivial ?_ rfl
  simp only [Tryz.ntmps62, List.size_toArray, List.length_cons, List.length_nil, Nat.reduceAdd, Nat.reduceSub, Array.replicate_succ, Array.replicate_zero, List.push_toArray, List.append_toArray, List.nil_append, List.cons_append]
  have y0 := HX.out.c0
  have y1 := HX.out.c1
  have y2 := HX.out.c2
  rw [hW1] at y0 y1 y2
  gi_wp2_with (gi_at_call 75; refine stop ?_)
  unfold Stop
  rw [← hW1] at y0 y1 y2 ⊢
  obtain ⟨g, hg⟩ : ∃ g, w.heap.size = g := ⟨_, rfl⟩
  rw [hg] at HX y0 y1 y2
  rw [hg]
  clear hW1 hg
  refine (parts_calls W1 _ q (HR.out.below HBW.out) HQ.out (HTab.out.below HBW.out)).mono ?_
  rintro e w2 ⟨rfl, hB⟩
  replace HX := Hid.intro (HX.out.below hB)
  replace HBW := Hid.intro (HBW.out.trans (hB.mono HBW.out.size))
  replace y0 := HX.out.c0
  replace y1 := HX.out.c1
  replace y2 := HX.out.c2
  obtain ⟨S, hS⟩ : ∃ S : ByteArray, textZ q.num = S := ⟨_, rfl⟩
  obtain ⟨T, hT⟩ : ∃ T : ByteArray, textN q.den = T := ⟨_, rfl⟩
  have HS := Hid.intro hS
  have HT := Hid.intro hT
  rw [hS, hT]
  clear hS hT hB
  gi_wp2_with (gi_at_call 25; refine stop ?_)
  unfold Stop
  refine (sign_calls w2 _ q (HR.out.below HBW.out)).mono ?_
  rintro e w3 ⟨rfl, hB⟩
  replace HBW := Hid.intro (HBW.out.trans (hB.mono HBW.out.size))
  clear y0 y1 y2 hB
  have hTs : T.size = Lib.nDigits q.den := by rw [← HT.out]; unfold textN; rw [bytes_size, Lib.decDigits_length]
  obtain ⟨d2, hd2⟩ : ∃ d, Lib.nDigits q.den = d := ⟨_, rfl⟩
  rw [hd2] at hTs
  by_cases h0 : 0 ≤ q.num
  · have hsz : S.size = Lib.nDigits q.num.natAbs := by rw [← HS.out, textZ_pos h0]; unfold textN; rw [bytes_size, Lib.decDigits_length]
    obtain ⟨d1, hd1⟩ : ∃ d, Lib.nDigits q.num.natAbs = d := ⟨_, rfl⟩
    rw [hd1] at hsz
    obtain ⟨s, hs⟩ : ∃ s, sgnR q = s := ⟨_, rfl⟩
    have hs0 : 0 ≤ s := by
      rw [← hs]; unfold sgnR
      rw [if_neg (by omega)]
      split <;> omega
    have HV : Hid (shortB q = (decide (d1 ≤ 6) && decide (d2 ≤ 6))) := Hid.intro (by unfold shortB SmallQ; rw [hd1, hd2, decide_eq_true h0, Bool.true_and])
    rw [hs]
    clear h0 hs hd1 hd2
    have hge : decide (s ≥ 0) = true := decide_eq_true hs0
    by_cases h6 : d1 ≤ 6
    · have hc : decide ((d1 : Int) ≤ 6) = true := decide_eq_true (by omega)
      by_cases h7 : d2 ≤ 6
      · have hc2 : decide ((d2 : Int) ≤ 6) = true := decide_eq_true (by omega)
        have HV2 : Hid (shortB q = true) := Hid.intro (by rw [HV.out, decide_eq_true h6, decide_eq_true h7]; rfl)
        clear HV h6 h7
        gi_wp2_with (exfalso; exact undef_not (by assumption))
        all_goals (first | go_returns | go_ret | go_end0)
        exact ⟨by rw [HV2.out]; rfl, HBW.out⟩
      · have hc2 : decide ((d2 : Int) ≤ 6) = false := decide_eq_false (by omega)
        have HV2 : Hid (shortB q = false) := Hid.intro (by rw [HV.out, decide_eq_false h7, Bool.and_false])
        clear HV h6 h7
        gi_wp2_with (exfalso; exact undef_not (by assumption))
        all_goals (first | go_returns | go_ret | go_end0)
        exact ⟨by rw [HV2.out]; rfl, HBW.out⟩
    · have hc : decide ((d1 : Int) ≤ 6) = false := decide_eq_false (by omega)
      have HV2 : Hid (shortB q = false) := Hid.intro (by rw [HV.out, decide_eq_false h6, Bool.false_and])
      clear HV h6
      gi_wp2_with (exfalso; exact undef_not (by assumption))
      all_goals (first | go_returns | go_ret | go_end0)
      exact ⟨by rw [HV2.out]; rfl, HBW.out⟩
  · have hs : sgnR q = -1 := by unfold sgnR; rw [if_pos (by omega)]
    have HV2 : Hid (shortB q = false) := Hid.intro (by unfold shortB; rw [decide_eq_false h0, Bool.false_and])
    rw [hs]
    clear h0 hs
    gi_wp2_with (exfalso; exact undef_not (by assumption))
    all_goals (first | go_returns | go_ret | go_end0)
    exact ⟨by rw [HV2.out]; rfl, HBW.out⟩
end Go.Num
namespace Go.Num
open Go.Eng Go.Shelf Go.RowKit Go.Proofs Go.Proofs.YtepakfjilnpodaaGreatDoor

/-- Fractions lie in a row. -/
def RowC (w : World) (v : Value) (l : List Rat) : Prop :=
  ∃ o c, v = .slice o l.length c ∧ l.length ≤ 1000000000 ∧ ∀ (i : Nat) (q : Rat), l[i]? = some q → ∃ a, o = some a ∧ a.block < w.heap.size ∧
    ∃ x0 x1 x2, w.cell? (a.add (i * 3)) = some x0 ∧ w.cell? ⟨(a.add (i * 3)).block, (a.add (i * 3)).off + 1, none⟩ = some x1 ∧ w.cell? ⟨(a.add (i * 3)).block, (a.add (i * 3)).off + 2, none⟩ = some x2 ∧ RatAt w (.agg #[x0, x1, x2]) q
theorem RowC.below {w w' : World} {v : Value} {l : List Rat} (h : RowC w v l) (hb : Below w.heap.size w w') : RowC w' v l := by
  obtain ⟨o, c, rfl, h9, hi⟩ := h
  refine ⟨o, c, rfl, h9, fun i q hq => ?_⟩
  obtain ⟨a, rfl, ha, x0, x1, x2, h0, h1, h2, hr⟩ := hi i q hq
  have hab : (a.add (i * 3)).block < w.heap.size := by rw [add_block]; exact ha
  exact ⟨a, rfl, Nat.lt_of_lt_of_le ha hb.size, x0, x1, x2, (hb.cell hab).trans h0, (hb.cell (p := ⟨(a.add (i * 3)).block, _, none⟩) hab).trans h1, (hb.cell (p := ⟨(a.add (i * 3)).block, _, none⟩) hab).trans h2, hr.below hb⟩
/-- A block of a fraction, the call's own. -/
def BoxQ (w : World) (g : Nat) (q : Rat) : Prop := ∃ sg o1 k1 c1 o2 k2 c2, ArrAt w g 3 (fun i => [.bool sg, .slice o1 k1 c1, .slice o2 k2 c2].getD i (.bool false)) ∧ RatAt w (.agg #[.bool sg, .slice o1 k1 c1, .slice o2 k2 c2]) q ∧ Elem w g 27
theorem RowC.item {w : World} {o : Option Addr} {n c : Nat} {l : List Rat} (h : RowC w (.slice o n c) l) {i : Nat} {q : Rat} (hq : l[i]? = some q) : ∃ a, o = some a ∧ a.block < w.heap.size ∧
    ∃ sg o1 k1 c1 o2 k2 c2, w.cell? (a.add (i * 3)) = some (.bool sg) ∧ w.cell? ⟨(a.add (i * 3)).block, (a.add (i * 3)).off + 1, none⟩ = some (.slice o1 k1 c1) ∧ w.cell? ⟨(a.add (i * 3)).block, (a.add (i * 3)).off + 2, none⟩ = some (.slice o2 k2 c2) ∧ RatAt w (.agg #[.bool sg, .slice o1 k1 c1, .slice o2 k2 c2]) q := by
  obtain ⟨o', c', e, h9, hi⟩ := h
  injection e with e _ _
  subst e
  obtain ⟨a, rfl, ha, x0, x1, x2, h0, h1, h2, hr⟩ := hi i q hq
  obtain ⟨o1, k1, c1, o2, k2, c2, hf⟩ := hr.form
  injection hf with hf
  have := congrArg Array.toList hf
  simp only [List.cons.injEq, and_true] at this
  obtain ⟨rfl, rfl, rfl⟩ := this
  exact ⟨a, rfl, ha, _, o1, k1, c1, o2, k2, c2, h0, h1, h2, hr⟩
theorem ArrAt.other {w : World} {g n b i : Nat} {f : Nat → Value} {v : Value} (h : ArrAt w g n f) (hne : b ≠ g) : ArrAt (w.setCell ⟨b, i, none⟩ v) g n f := fun j hj => by
  refine ⟨by rw [World.cell?_setCell_other _ _ _ _ (fun e => by injection e with e _ _; exact hne e)]; exact (h j hj).1, ?_⟩
  rw [World.frozen?_setCell]; exact (h j hj).2
theorem BoxQ.below {w w' : World} {g : Nat} {q : Rat} (h : BoxQ w g q) (hb : Below w.heap.size w w') : BoxQ w' g q := by
  obtain ⟨sg, o1, k1, c1, o2, k2, c2, hA, hr, hE⟩ := h
  have hl := hA.lt (by omega)
  exact ⟨sg, o1, k1, c1, o2, k2, c2, hA.below hl hb, hr.below hb, hE.below hb hl⟩
theorem boxQ_new {w : World} {sg : Bool} {o1 o2 : Option Addr} {k1 c1 k2 c2 : Nat} {q : Rat} (h : RatAt w (.agg #[.bool sg, .slice o1 k1 c1, .slice o2 k2 c2]) q) : BoxQ (w.alloc (.cells #[.bool sg, .slice o1 k1 c1, .slice o2 k2 c2] 27)) w.heap.size q := by
  refine ⟨sg, o1, k1, c1, o2, k2, c2, ArrAt.new _ _ _ fun i hi => ?_, h.below (alloc_below _ _), elem_new _ _ _⟩
  match i, hi with
  | 0, _ => rfl
  | 1, _ => rfl
  | 2, _ => rfl
/-- Another fraction is laid into the block. -/
theorem BoxQ.set {w : World} {g : Nat} {p q : Rat} {sg : Bool} {o1 o2 : Option Addr} {k1 c1 k2 c2 : Nat} (h : BoxQ w g p) (hr : RatAt w (.agg #[.bool sg, .slice o1 k1 c1, .slice o2 k2 c2]) q) :
    BoxQ (((w.setCell ⟨g, 0, none⟩ (.bool sg)).setCell ⟨g, 1, none⟩ (.slice o1 k1 c1)).setCell ⟨g, 2, none⟩ (.slice o2 k2 c2)) g q := by
  obtain ⟨sg', o3, k3, c3, o4, k4, c4, hA, _, hE⟩ := h
  refine ⟨sg, o1, k1, c1, o2, k2, c2, (((hA.set (i := 0) (by omega) (.bool sg)).set (i := 1) (by omega) (.slice o1 k1 c1)).set (i := 2) (by omega) (.slice o2 k2 c2)).congr fun i hi => ?_, ((hr.setElem hE (by decide)).setElem (hE.setCell _ _) (by decide)).setElem ((hE.setCell _ _).setCell _ _) (by decide), ((hE.setCell _ _).setCell _ _).setCell _ _⟩
  match i, hi with
  | 0, _ => rfl
  | 1, _ => rfl
  | 2, _ => rfl
def sumL (l : List Rat) : Rat := l.foldl (· + ·) 0
def prodL (l : List Rat) : Rat := l.foldl (· * ·) 1
theorem sumL_snoc (l : List Rat) (q : Rat) : sumL (l ++ [q]) = sumL l + q := by unfold sumL; rw [List.foldl_append]; rfl
theorem prodL_snoc (l : List Rat) (q : Rat) : prodL (l ++ [q]) = prodL l * q := by unfold prodL; rw [List.foldl_append]; rfl

/-- **'must'.** -/
theorem must_calls (w : World) (v : Value) (q : Rat) (h : RatAt w v q) :
    CallsIn Fence.wide 0 Tryz.prog 85 #[v, .int .i64 0] w fun e w' => ∃ v', e = .returned v' ∧ RatAt w' v' q ∧ Below w.heap.size w w' := by
  refine (run_script follows namesOK (env := [leafR q]) (S := [shR]) rfl (w := w) told_nil (n := 50) (ts := A2 (tg 0) (vi 0)) (rs := A1 (tg 0)) (by kernel_rfl) (xs := #[v, .int .i64 0]) (ps2 h rfl)).mono ?_
  rintro e w' ⟨x, rfl, hx, hB⟩
  exact ⟨x, rfl, hx, hB⟩
/-- **'over'.** -/
theorem wover_calls (w : World) (va vb : Value) (p q : Rat) (L : Nat) (ha : RatAt w va p) (hb : RatAt w vb q) (hp : RatLe p L) (hq : RatLe q L) (hq0 : q.num ≠ 0) (hL : L ≤ 1000000) (hr : RatLe (p / q) 100000) (hs : Kept1 (p / q) = true) (htab : Pow10 w) :
    CallsIn Fence.wide 0 Tryz.prog 67 #[va, vb] w fun e w' => ∃ v', e = .returned v' ∧ RatAt w' v' (p / q) ∧ Below w.heap.size w w' := by
  have hT : TI w [leafR p, leafR q, leafR (p / q)] [(45, A2 (tg 0) (tg 1), A2 (tg 2) (vi 0))] := by
    refine told_e2 ⟨_, Tryz.func45, rfl⟩ (fun w1 v u hw hv hu => ?_) told_nil
    refine (quoR_calls w1 v u p q L hv hu hp hq hq0 hL hr hs (htab.below hw)).mono ?_
    rintro e w' ⟨v', rfl, h1, h2⟩
    exact ⟨_, rfl, pk2 h1 rfl, h2⟩
  refine (run_script follows namesOK (S := [shR, shR, shR]) rfl hT (n := 50) (ts := A2 (tg 0) (tg 1)) (rs := A1 (tg 2)) (by kernel_rfl) (xs := #[va, vb]) (ps2 ha hb)).mono ?_
  rintro e w' ⟨x, rfl, hx, hB⟩
  exact ⟨x, rfl, hx, hB⟩
end Go.Num
