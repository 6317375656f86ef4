/-
  The law NumTexts answers true.
  Conditions: the tables lie in memory; a string's length is an int.
-/
import Derived.Test.YtoamcgjbelhnkaaGreatDoorLawX
import Derived.Test.YtoamcgjbelhnkaaGreatDoorEngTl
import Derived.BigFrameIn
namespace Go.Num
open Go.Eng Go.Shelf Go.RowKit Go.Sort Go.Proofs Go.Proofs.YtoamcgjbelhnkaaGreatDoor

theorem same_err (l : List UInt8) : parseE l = refE l := by
  by_cases h : 41000 < l.length
  · rw [(parse_long h).1, refE_long h]
  · cases hf : formQ l with
    | none => rw [(parse_none h hf).1, refE_none h hf]
    | some q => rw [(parse_some h hf).1, refE_some h hf, small_kept]; rfl
theorem err_zero {l : List UInt8} (h : refE l ≠ 0) : parseV l = 0 := by
  by_cases hl : 41000 < l.length
  · exact (parse_long hl).2
  · cases hf : formQ l with
    | none => exact (parse_none hl hf).2
    | some q =>
      rw [(parse_some hl hf).2]
      rw [refE_some hl hf, small_kept] at h
      unfold keptQ
      cases hk : Kept1 q with
      | true => rw [hk] at h; exact absurd rfl h
      | false => rfl
theorem ok_val {l : List UInt8} (h : refE l = 0) : ∃ q, formQ l = some q ∧ parseV l = q ∧ Kept1 q = true ∧ textQ q = ⟨l.toArray⟩ := by
  have hl : ¬ 41000 < l.length := fun hl => by rw [refE_long hl] at h; cases h
  cases hf : formQ l with
  | none => rw [refE_none hl hf] at h; cases h
  | some q =>
    rw [refE_some hl hf, small_kept] at h
    have hk : Kept1 q = true := by
      cases hk : Kept1 q with
      | true => rfl
      | false => rw [hk] at h; cases h
    refine ⟨q, rfl, ?_, hk, ?_⟩
    · rw [(parse_some hl hf).2]; exact if_pos hk
    · rw [textL_bytes, formQ_text hf]
theorem refE_four (l : List UInt8) : refE l = 0 ∨ refE l = 2 ∨ refE l = 10 ∨ refE l = 11 := by
  by_cases hl : 41000 < l.length
  · exact .inr (.inl (refE_long hl))
  · cases hf : formQ l with
    | none => exact .inr (.inr (.inl (refE_none hl hf)))
    | some q =>
      rw [refE_some hl hf]
      split
      · exact .inl rfl
      · exact .inr (.inr (.inr rfl))
theorem textN_int (n : Nat) : textZ (n : Int) = textN n := by
  unfold textZ textN
  rw [show Lib.itoa (n : Int) = Lib.decDigits n by unfold Lib.itoa; rw [if_neg (by omega)]; simp]

def leafB (b : Bool) : Leaf rs3 where
  sh := .one
  I := fun v _ => v = .bool b
  stable := fun _ _ _ _ h => h
  ok := by rintro v w rfl; rfl
  det := fun h => by cases h
def leafN (n : Nat) : Leaf rs3 where
  sh := .one
  I := fun v w => NatI w v n
  stable := fun _ _ _ hk h => h.kept hk rfl
  ok := fun v w h => h.oneCell
  det := fun h => by cases h
/-- Some struct of the reference's. -/
def leafA : Leaf rs3 where
  sh := .agg 4
  I := fun v _ => ∃ s1 o1 k1 c1 s2 o2 k2 c2, v = .agg #[.bool s1, .slice o1 k1 c1, .bool s2, .slice o2 k2 c2]
  stable := fun _ _ _ _ h => h
  ok := by
    rintro v w ⟨s1, o1, k1, c1, s2, o2, k2, c2, rfl⟩
    refine ⟨_, rfl, rfl, fun x hx => ?_⟩
    simp only [List.mem_cons, List.not_mem_nil, or_false] at hx
    rcases hx with rfl | rfl | rfl | rfl <;> rfl
  det := fun h => by cases h

def envT (s : ByteArray) (q : Rat) : List (Leaf rs3) :=
  [leafS s, leafR q, leafB (decide (q.num < 0)), leafN q.num.natAbs, leafN q.den, leafS (textZ q.num), leafS (textN q.den), leafA, leafR 0]
def shT : List Sh := [.str, shR, .one, .one, .one, .str, .str, .agg 4, shR]
abbrev qPc : AT := .agg (.cons (tg 2) (.cons (tg 3) (.cons (vb false) (.cons (tg 4) .nil))))
def scriptT (c : Int) : List Entry :=
  [(11, A1 (tg 0), A2 (tg 1) (vi 0)), (12, A1 (tg 0), A2 qPc (vi 0)), (15, A1 (tg 1), A2 (tg 5) (tg 6)), (13, A1 (tg 1), A1 (tg 0)),
   (16, A1 (.agg (.cons (tg 2) (.cons (tg 3) .nil))), A1 (tg 5)), (16, A1 (.agg (.cons (vb false) (.cons (tg 4) .nil))), A1 (tg 6)), (17, A1 (tg 1), A1 (vi c)), (18, A1 qPc, A1 (vi c)), (14, .nil, A1 (vb true))]
def scriptE (e : Int) : List Entry :=
  [(11, A1 (tg 0), A2 (tg 8) (vi e)), (12, A1 (tg 0), A2 (tg 7) (vi e)), (13, A1 (tg 8), A1 (.val (.sc (.str ⟨#[48]⟩)))), (14, .nil, A1 (vb true))]

section
variable {w : World} {s : ByteArray} {q : Rat}
theorem qPc_iff {v : Value} {w' : World} : PieceOK (Gs (envT s q)) qPc v w' ↔ QAt w' v q := by
  constructor
  · rintro ⟨xs, rfl, a, r, e1, h1, b, r2, rfl, h2, c, r3, rfl, h3, d, r4, rfl, h4, h5⟩
    have h5 : r4 = [] := h5
    subst h5
    have e : xs = #[a, b, c, d] := Array.toList_inj.1 (by simpa using e1)
    subst e
    have h1 : a = .bool (decide (q.num < 0)) := h1
    have h3 : some (Value.bool false) = some c := h3
    cases h3
    subst h1
    exact ⟨b, d, rfl, h2, h4⟩
  · rintro ⟨m1, m2, rfl, h1, h2⟩
    exact ⟨_, rfl, _, _, rfl, rfl, _, _, rfl, h1, _, _, rfl, rfl, _, _, rfl, h2, rfl⟩
theorem texts_told {l : List UInt8} (hl : s.data.toList = l) (hL : Laid w) (h0 : refE l = 0) (hq : formQ l = some q) (hv : parseV l = q) (hk : Kept1 q = true) (ht : textQ q = s) {c : Int} (hc : sgnR q = c) : TI w (envT s q) (scriptT c) := by
  have lq := kept_le hk
  refine told_e1 ⟨_, Tryz.func11, rfl⟩ (fun w1 v hw hv1 => ?_) <| told_e1 ⟨_, Tryz.func12, rfl⟩ (fun w1 v hw hv1 => ?_) <| told_e1 ⟨_, Tryz.func15, rfl⟩ (fun w1 v hw hv1 => ?_) <| told_e1 ⟨_, Tryz.func13, rfl⟩ (fun w1 v hw hv1 => ?_) <|
    told_e1 ⟨_, Tryz.func16, rfl⟩ (fun w1 v hw hv1 => ?_) <| told_e1 ⟨_, Tryz.func16, rfl⟩ (fun w1 v hw hv1 => ?_) <| told_sgnR rfl hc <| told_e1 ⟨_, Tryz.func18, rfl⟩ (fun w1 v hw hv1 => ?_) <| told_awake hL told_nil
  · have hv1 : v = .string s := hv1
    subst hv1
    refine (parseR_calls w1 s l hl (hL.below hw)).mono ?_
    rintro e w' ⟨v', rfl, h1, h2⟩
    rw [same_err, h0]
    rw [hv] at h1
    exact ⟨_, rfl, pk2 h1 rfl, h2⟩
  · have hv1 : v = .string s := hv1
    subst hv1
    refine (parseQ_calls w1 s l hl).mono ?_
    rintro e w' ⟨v', rfl, _, h1, h2⟩
    obtain ⟨q', hq', hqa⟩ := h1 h0
    rw [hq] at hq'
    cases hq'
    rw [h0]
    exact ⟨_, rfl, pk2 (qPc_iff.2 hqa) rfl, h2⟩
  · refine (parts_calls w1 v q hv1 (lq.mono (by decide)) (hL.pow.below hw)).mono ?_
    rintro e w' ⟨rfl, h2⟩
    exact ⟨_, rfl, pk2 rfl rfl, h2⟩
  · refine (string_calls w1 v q hv1 (lq.mono (by decide)) (hL.pow.below hw)).mono ?_
    rintro e w' ⟨rfl, h2⟩
    rw [ht]
    exact ⟨_, rfl, rfl, h2⟩
  · obtain ⟨xs, rfl, a, r, e1, h1, b, r2, rfl, h2, h3⟩ := hv1
    have h3 : r2 = [] := h3
    subst h3
    have e : xs = #[a, b] := Array.toList_inj.1 (by simpa using e1)
    subst e
    have h1 : a = .bool (decide (q.num < 0)) := h1
    subst h1
    refine (rString_calls w1 _ q.num ⟨b, rfl, h2⟩ (lt_lift 100000 lq.1 (by decide))).mono ?_
    rintro e w' ⟨rfl, h2⟩
    exact ⟨_, rfl, rfl, h2⟩
  · obtain ⟨xs, rfl, a, r, e1, h1, b, r2, rfl, h2, h3⟩ := hv1
    have h3 : r2 = [] := h3
    subst h3
    have e : xs = #[a, b] := Array.toList_inj.1 (by simpa using e1)
    subst e
    have h1 : some (Value.bool false) = some a := h1
    cases h1
    refine (rString_calls w1 _ (q.den : Int) ⟨b, by rw [decide_eq_false (by omega)], by rw [Int.natAbs_natCast]; exact h2⟩ (by rw [Int.natAbs_natCast]; exact lt_lift 100000 lq.2 (by decide))).mono ?_
    rintro e w' ⟨rfl, h2⟩
    rw [textN_int]
    exact ⟨_, rfl, rfl, h2⟩
  · refine (sgnQ_calls w1 v q (qPc_iff.1 hv1) (lq.mono (by decide))).mono ?_
    rintro e w' ⟨rfl, h2⟩
    rw [sgn_num, hc]
    exact ⟨_, rfl, rfl, h2⟩
theorem err_told {l : List UInt8} (hl : s.data.toList = l) (hL : Laid w) {c : Int} (hc : refE l = c) (h0 : c ≠ 0) : TI w (envT s q) (scriptE c) := by
  have hv := err_zero (l := l) (by rw [hc]; exact h0)
  refine told_e1 ⟨_, Tryz.func11, rfl⟩ (fun w1 v hw hv1 => ?_) <| told_e1 ⟨_, Tryz.func12, rfl⟩ (fun w1 v hw hv1 => ?_) <| told_str0 rfl hL <| told_awake hL told_nil
  · have hv1 : v = .string s := hv1
    subst hv1
    refine (parseR_calls w1 s l hl (hL.below hw)).mono ?_
    rintro e w' ⟨v', rfl, h1, h2⟩
    rw [same_err, hc]
    rw [hv] at h1
    exact ⟨_, rfl, pk2 h1 rfl, h2⟩
  · have hv1 : v = .string s := hv1
    subst hv1
    refine (parseQ_calls w1 s l hl).mono ?_
    rintro e w' ⟨v', rfl, h1, _, h2⟩
    rw [hc]
    exact ⟨_, rfl, pk2 h1 rfl, h2⟩
end

set_option maxRecDepth 100000 in
set_option maxHeartbeats 8000000 in
/-- **NumTexts.** -/
theorem numTexts_walk (w : World) (s : ByteArray) (hs : s.size ≤ 9223372036854775807) (hL : Laid w) :
    CallsIn Fence.wide 0 Tryz.prog 3 #[.string s] w fun e w' => e = .returned (.bool true) ∧ Below w.heap.size w w' := by
  obtain ⟨n, hn⟩ : ∃ n, s.size = n := ⟨_, rfl⟩
  rw [hn] at hs
  obtain ⟨k, hk⟩ : ∃ k, min n 41001 = k := ⟨_, rfl⟩
  have hkm : min (n : Int) 41001 = (k : Int) := by omega
  have hkn : k ≤ n := by omega
  refine callsIn_of_wp Tryz.func3 rfl trivial ?_ rfl
  simp only [Tryz.ntmps3, List.size_toArray, List.length_cons, List.length_nil, Nat.reduceAdd, Nat.reduceSub, Array.replicate_succ, Array.replicate_zero, List.push_toArray, List.append_toArray, List.nil_append, List.cons_append]
  refine seq_to (by gi_wp2; exact ⟨rfl, rfl⟩) ?_
  refine seq_to (by gi_wp2; exact ⟨rfl, rfl⟩) ?_
  obtain ⟨t, ht⟩ : ∃ t, s.extract 0 k = t := ⟨_, rfl⟩
  rw [ht]
  obtain ⟨l, hl⟩ : ∃ l, t.data.toList = l := ⟨_, rfl⟩
  rcases refE_four l with h0 | h0 | h0 | h0
  · obtain ⟨q, hq, hv, hkq, htq⟩ := ok_val h0
    have htt : textQ q = t := by rw [htq, ← hl]
    rcases sgnR_three q with hc | hc | hc
    all_goals exact tail_script (env := envT t q) (slots := [0, 2]) (ts := A2 (tg 0) (vb false)) follows namesOK (S := shT) rfl (texts_told hl hL h0 hq hv hkq htt hc) (n := 60) (fid := 3) (t := 2) rfl (ps2 (x := .string t) (y := .bool false) rfl rfl) (by kernel_rfl) (fun w' hB => ⟨rfl, hB⟩)
  all_goals exact tail_script (env := envT t 0) (slots := [0, 2]) (ts := A2 (tg 0) (vb false)) follows namesOK (S := shT) rfl (err_told (q := 0) hl hL h0 (by decide)) (n := 60) (fid := 3) (t := 2) rfl (ps2 (x := .string t) (y := .bool false) rfl rfl) (by kernel_rfl) (fun w' hB => ⟨rfl, hB⟩)
end Go.Num
