/-
  The program's magnitudes: products and shifts.
  Conditions: none.
-/
import Derived.Test.YtoamcgjbelhnkaaGreatDoorMagX
import Derived.Deep.AppendSrc

namespace Go.Num
open Go.RowKit Go.Proofs Go.Proofs.YtoamcgjbelhnkaaGreatDoor

/-- A cell of the row while it is multiplied. -/
def cellM (S c y i j p : Nat) : Nat := if p < i + j then limb (rowT S c y i j) p else limb S p
theorem cellM_zero {S c y i : Nat} (p : Nat) : cellM S c y i 0 p = limb S p := by
  unfold cellM
  rw [rowT_zero]
  split <;> rfl
theorem cellM_step {S c y i j p : Nat} : cellM S c y i (j + 1) p = if p = i + j then limb (rowT S c y i (j + 1)) (i + j) else cellM S c y i j p := by
  unfold cellM
  by_cases e : p = i + j
  · subst e
    rw [if_pos rfl, if_pos (by omega)]
  · rw [if_neg e]
    by_cases h : p < i + j
    · rw [if_pos (by omega), if_pos h, (mul_step S c y i j).2.2 p h]
    · rw [if_neg (by omega), if_neg h]
theorem cellM_end {x y i l p : Nat} (hy : y < B ^ l) : (if p = i + l then limb (x % B ^ (i + 1) * y) (i + l) else cellM (x % B ^ i * y) (limb x i) y i l p) = limb (x % B ^ (i + 1) * y) p := by
  by_cases e : p = i + l
  · subst e; rw [if_pos rfl]
  · rw [if_neg e]
    unfold cellM
    rw [(row_end hy).1]
    by_cases h : p < i + l
    · rw [if_pos h]
    · rw [if_neg h]
      have h1 : x % B ^ i * y < B ^ p := Nat.lt_of_lt_of_le (prod_len (low_lt x i) hy) (pow_mono (by omega))
      have h2 : x % B ^ (i + 1) * y < B ^ p := Nat.lt_of_lt_of_le (prod_len (low_lt x (i + 1)) hy) (pow_mono (by omega))
      rw [limb_high h1, limb_high h2]

set_option maxRecDepth 100000 in
set_option maxHeartbeats 8000000 in
/-- **'mul' of magnitudes.** -/
theorem mul_calls (w : World) (va vb : Value) (x y L : Nat) (ha : MagAt w va x) (hb : MagAt w vb y) (hx : x < B ^ L) (hy : y < B ^ L) (hL : L ≤ 100000000) :
    CallsIn Fence.wide 0 Tryz.prog 118 #[va, vb] w fun e w' => ∃ v', e = .returned v' ∧ (MagAt w' v' (x * y) ∧ Fresh w.heap.size v') ∧ Below w.heap.size w w' := by
  obtain ⟨k, hk, hla⟩ := ha
  obtain ⟨l, hl, hlb⟩ := hb
  have hkL := hk.le hx
  have hlL := hl.le hy
  clear hx hy
  obtain ⟨o1, c1, rfl, h1⟩ := hla.form
  obtain ⟨o2, c2, rfl, h2⟩ := hlb.form
  have H1 := Hid.intro h1
  have H2 := Hid.intro h2
  have HK := Hid.intro hk
  have HL := Hid.intro hl
  clear h1 h2 hk hl hla hlb
  refine callsIn_of_wp Tryz.func118 rfl trivial ?_ rfl
  simp only [Tryz.ntmps118, List.size_toArray, List.length_cons, List.length_nil, Nat.reduceAdd, Nat.reduceSub, Array.replicate_succ, Array.replicate_zero, List.push_toArray, List.append_toArray, List.nil_append, List.cons_append]
  gi_wp2_with (gi_at_make; refine stop ?_)
  unfold Stop
  refine wpListIn_make_full _ rfl _ _ _ rfl w.heap.size 111 Tryz.t111 _ 1 Go.Num.u23 t111_info t111_zero t111_size _ _ _ _ (k + l) rfl rfl (by omega) (by omega) (by rw [t111_bytes]; omega) (by unfold maxLen; omega) (Nat.le_refl _) ?_
  intro W4 hown hgrow
  obtain ⟨g, hg'⟩ : ∃ g, w.heap.size = g := ⟨_, rfl⟩
  have HA4 : Hid (ArrAt W4 g (k + l) fun p => .int .u64 ((limb (x % B ^ 0 * y) p : Nat) : Int)) := by
    rw [← hg']
    exact ArrAt.of_row hown fun i hi => by rw [low_zero, Nat.zero_mul, limb_zero]; exact made_limbs (by omega)
  have HB5 : Hid (Below w.heap.size w W4) := (Below.refl _ w).grown hgrow (Nat.le_refl _) (fun _ h => by cases h)
  have hg : w.heap.size ≤ g := by omega
  have HE5 : Hid (Elem W4 g 111) := by rw [← hg']; exact elem_of_row hown
  rw [hg']
  clear hown hgrow hg'
  gi_wp2
  gi_loopw [19] (fun i wr => ∃ i0 : Nat, i0 ≤ k ∧ i = .int .i64 (i0 : Int) ∧ Hid (ArrAt wr g (k + l) fun p => .int .u64 ((limb (x % B ^ i0 * y) p : Nat) : Int)) ∧ Hid (Below w.heap.size w wr) ∧ Hid (Elem wr g 111)) (fun i _ => k - (intOf i).toNat)
  case atStart => exact ⟨0, by omega, rfl, HA4.out, HB5.out, HE5.out⟩
  case round =>
    obtain ⟨i0, hi, rfl, HA, HBr, HE⟩ := hrel
    clear HA4 HB5 HE5
    by_cases hik : i0 < k
    · obtain ⟨a1, rfl, ha1, hc1'⟩ := H1.out (by omega)
      have p1 := (HBr.out.cell (p := a1.add i0) (by rw [add_block]; exact ha1)).trans (hc1' i0 hik)
      obtain ⟨cx, hcx⟩ : ∃ l, limb x i0 = l := ⟨_, rfl⟩
      have bx : cx < 1000000000 := by rw [← hcx]; exact limb_lt x i0
      rw [hcx] at p1
      obtain ⟨S, hS⟩ : ∃ S, x % B ^ i0 * y = S := ⟨_, rfl⟩
      have HCX := Hid.intro hcx
      have HSS := Hid.intro hS
      rw [hS] at HA
      clear hc1' hcx hS
      gi_wp2
      gi_loopw [8, 26] (fun cv jv wr => ∃ (j ca : Nat), j ≤ l ∧ jv = .int .i64 (j : Int) ∧ cv = .int .u64 (ca : Int) ∧ Hid (carryM S cx y i0 j = ca) ∧ Hid (ArrAt wr g (k + l) fun p => .int .u64 ((cellM S cx y i0 j p : Nat) : Int)) ∧ Hid (Below w.heap.size w wr) ∧ Hid (Elem wr g 111)) (fun _ jv _ => l - (intOf jv).toNat)
      case atStart => exact ⟨0, 0, by omega, rfl, rfl, Hid.intro (carryM_zero _ _ _ _), Hid.intro (ArrAt.congr HA.out fun p _ => by rw [cellM_zero]), HBr.out, HE.out⟩
      case round =>
        obtain ⟨j, ca, hj, rfl, rfl, HC, HA2, HB2, HE2⟩ := hrel
        have hcle : ca ≤ cx := by rw [← HC.out]; exact carryM_le S cx y i0 j
        clear HA
        by_cases hjl : j < l
        · obtain ⟨a2, rfl, ha2, hc2'⟩ := H2.out (by omega)
          have p2 := (HB2.out.cell (p := a2.add j) (by rw [add_block]; exact ha2)).trans (hc2' j hjl)
          have s := mul_step S cx y i0 j
          rw [HC.out] at s
          obtain ⟨ly, hly⟩ : ∃ l, limb y j = l := ⟨_, rfl⟩
          have by' : ly < 1000000000 := by rw [← hly]; exact limb_lt y j
          obtain ⟨lo, hlo⟩ : ∃ l, limb S (i0 + j) = l := ⟨_, rfl⟩
          have bo : lo < 1000000000 := by rw [← hlo]; exact limb_lt S (i0 + j)
          rw [hly] at p2 s
          have hij : i0 + j < k + l := by omega
          have z1 : wr.cell? ⟨g, i0 + j, none⟩ = some (.int .u64 (lo : Int)) := (HA2.out (i0 + j) hij).1.trans (by show some (Value.int .u64 ((cellM S cx y i0 j (i0 + j) : Nat) : Int)) = _; unfold cellM; rw [if_neg (by omega), hlo])
          have z2 := (HA2.out (i0 + j) hij).2
          rw [hlo] at s
          obtain ⟨P, hP⟩ : ∃ P, cx * ly = P := ⟨_, rfl⟩
          have hPB : P ≤ 999999998000000001 := by
            rw [← hP]
            exact Nat.mul_le_mul (Nat.le_of_lt_succ bx) (Nat.le_of_lt_succ by')
          have e1 : IntKind.u64.wrap ((cx : Int) * (ly : Int)) = (P : Int) := by
            have := u64_small (x := P) (by omega)
            rw [← this, ← hP]
            simp
          rw [hP] at s
          have hBB : B = 1000000000 := rfl
          rw [hBB] at s
          have HSt := Hid.intro s
          have hQ : (ca + lo + P) % 1000000000 < 1000000000 := Nat.mod_lt _ (by decide)
          clear hc2' hly hlo hP s hBB
          gi_wp2
          refine ⟨⟨j + 1, (ca + lo + P) / 1000000000, by omega, by go_num, congrArg (Value.int .u64) (by omega), HSt.out.2.1, ?_, HB2.out.setCell hg _, HE2.out.setCell _ _⟩, by simp [intOf]; omega⟩
          refine Hid.intro (ArrAt.congr (HA2.out.set hij (.int .u64 (((ca : Int) + ((lo : Int) + (P : Int))) % 1000000000))) fun p _ => ?_)
          rw [cellM_step]
          by_cases e : p = i0 + j
          · rw [if_pos e, if_pos e, HSt.out.1]
            exact congrArg (Value.int .u64) (by omega)
          · rw [if_neg e, if_neg e]
        · have hjl0 : j = l := by omega
          subst hjl0
          have hij : i0 + j < k + j := by omega
          have z1 : ∃ v, wr.cell? ⟨g, i0 + j, none⟩ = some v := ⟨_, (HA2.out (i0 + j) hij).1⟩
          obtain ⟨v1, z1⟩ := z1
          have z2 := (HA2.out (i0 + j) hij).2
          gi_wp2
          refine ⟨⟨i0 + 1, by omega, by go_num, ?_, HB2.out.setCell hg _, HE2.out.setCell _ _⟩, by simp [intOf]; omega⟩
          refine Hid.intro (ArrAt.congr (HA2.out.set hij (.int .u64 (ca : Int))) fun p _ => ?_)
          have ce := cellM_end (x := x) (i := i0) (p := p) HL.out.1
          have re := (row_end (x := x) (i := i0) HL.out.1).2
          rw [HSS.out, HCX.out] at ce re
          rw [← ce, ← re, HC.out]
          by_cases e : p = i0 + j
          · rw [if_pos e, if_pos e]
          · rw [if_neg e, if_neg e]
    · have hik0 : i0 = k := by omega
      subst hik0
      have hlt : x * y < B ^ (i0 + l) := prod_len HK.out.1 HL.out.1
      have hla : LimbsAt wr (.slice (some ⟨g, 0, none⟩) (i0 + l) (i0 + l)) (x * y) (i0 + l) := by
        rcases Nat.eq_zero_or_pos (i0 + l) with h | h
        · rw [h]; exact .inl ⟨rfl, _, _, rfl⟩
        · refine ArrAt.limbs (ArrAt.congr HA.out fun p _ => ?_) h (Nat.le_refl _) ⟨by omega, by omega⟩ HE.out
          rw [low_high HK.out.1]
      have HT := Hid.intro (trim_calls wr _ (x * y) (i0 + l) hla hlt)
      clear hlt hla
      gi_wp2_with (gi_at_call 107; refine HT.out.mono ?_; rintro e w7 ⟨v', rfl, hm, hB7⟩; have HM := Hid.intro hm; have HB7 := Hid.intro (HBr.out.trans (hB7.mono HBr.out.size)); clear hm hB7)
      all_goals (first | go_returns | go_ret | go_end0)
      exact ⟨v', rfl, ⟨HM.out.1, fresh_of HM.out.2 hg⟩, HB7.out⟩
end Go.Num

namespace Go.Num
open Go.RowKit Go.Proofs Go.Proofs.YtoamcgjbelhnkaaGreatDoor

theorem limb_moved (x n i : Nat) : limb (x * B ^ n) i = if i < n then 0 else limb x (i - n) := by
  by_cases h : i < n
  · rw [if_pos h]
    unfold limb
    obtain ⟨d, rfl⟩ : ∃ d, n = i + 1 + d := ⟨n - i - 1, by omega⟩
    have : x * B ^ (i + 1 + d) = B ^ i * (B * (x * B ^ d)) := by
      rw [Nat.pow_add, Nat.pow_succ]; ac_rfl
    rw [this, Nat.mul_div_cancel_left _ (pow_pos' i), Nat.mul_mod_right]
  · rw [if_neg h]
    obtain ⟨d, rfl⟩ : ∃ d, i = n + d := ⟨i - n, by omega⟩
    unfold limb
    rw [Nat.pow_add, ← Nat.div_div_eq_div_mul, Nat.mul_div_cancel _ (pow_pos' n)]
    rw [show n + d - n = d by omega]
theorem firstL_moved (x n k : Nat) : (madeCells #[Value.int .u64 0] n).toList ++ firstL x k = firstL (x * B ^ n) (n + k) := by
  apply List.ext_getElem?
  intro i
  by_cases h : i < n
  · rw [List.getElem?_append_left (by rw [Array.length_toList, size_madeCells]; exact h), made_limbs h]
    simp [firstL, show i < n + k by omega, limb_moved, h]
  · rw [List.getElem?_append_right (by rw [Array.length_toList, size_madeCells]; omega), Array.length_toList, size_madeCells]
    by_cases h2 : i < n + k
    · simp [firstL, h2, limb_moved, h, show i - n < k by omega]
    · simp [firstL, h2, show ¬ i - n < k by omega]

theorem wpListIn_make_part {F : Fence} {n : Nat} {P : Program} (w : World) {ops : Array Oper} {rest : List Oper} {o : Oper} {a : Act} {Q : Exit → Act → World → Prop}
    (hg : o.guard = none) (l c : Operand) (t : TypeId) (hop : o.op = Op.makeSlice t l c)
    (base : Nat) (e : TypeId) (i : TypeInfo) (z : Value) (size : Nat) (h1 : P.underlying t = some (.slice e)) (h2 : P.info? e = some i) (h3 : i.zero = some z) (h4 : i.size = size)
    (kl kc : IntKind) (L C : Int) (m cap : Nat) (hl : a.eval l = .int kl L) (hc : a.eval c = .int kc C) (hL : L = (m : Int)) (hC : C = (cap : Int)) (hmc : m ≤ cap) (b2 : i.bytes * cap ≤ 281474976710656) (b3 : cap ≤ maxLen) (b4 : base ≤ w.heap.size)
    (hK : ∀ w', w'.ownsRow base e size (.slice (some ⟨w.heap.size, 0, none⟩) m cap) m ((madeCells z.cells (cap * size)).toList.take (m * size)) → w.grownBy w' none → wpListIn F n P ops Q rest (a.put o.dst (.slice (some ⟨w.heap.size, 0, none⟩) m cap)) w') :
    wpListIn F n P ops Q (o :: rest) a w := by
  refine wpListIn_plain hg fun K hK' => ?_
  subst hL
  subst hC
  subst h4
  have h63' : (cap : Int) ≤ 9223372036854775807 := by
    have h := b3
    simp [maxLen] at h
    omega
  have hb' : (i.bytes : Int) * (cap : Int) ≤ 281474976710656 := by
    have h : ((i.bytes * cap : Nat) : Int) ≤ 281474976710656 := by omega
    rwa [Int.natCast_mul] at h
  have hrun := run_make (P := P) w t e i z h1 h2 h3 kl kc m cap (by omega) (by omega) hb' h63'
  simp only [Int.toNat_natCast] at hrun
  unfold Oper.wpIn
  refine ⟨?_, ?_⟩
  · simp [Oper.about, hop]
  · rw [Oper.semAt_plain F _ _ (by rw [hop]; intro c hc'; cases hc')]
    simp [execOp, hop, hl, hc, hrun, Result.andThen]
    refine hK' _ _ (hK _ ?_ (World.grownBy_alloc w _ none))
    have hs := size_madeCells z.cells (cap * i.size)
    refine ⟨?_, .inr ⟨w.heap.size, cap, _, rfl, b4, heap_alloc_new w _, hmc, b3, hs, rfl⟩⟩
    rw [List.length_take, Array.length_toList, hs]
    exact Nat.min_eq_left (Nat.mul_le_mul_right _ hmc)

theorem take_made (z : Value) (m cap : Nat) (h : m ≤ cap) : (madeCells #[z] cap).toList.take m = (madeCells #[z] m).toList := by
  apply List.ext_getElem?
  intro i
  by_cases hi : i < m
  · rw [List.getElem?_take_of_lt hi]
    simp [madeCells, hi, show i < cap by omega, Nat.mod_one]
  · rw [List.getElem?_take_eq_none (by omega)]
    simp [madeCells, hi]

/-- Nothing put behind a row. -/
theorem wpListIn_append_nothing {F : Fence} {n : Nat} {P : Program} (w : World) {ops : Array Oper} {rest : List Oper} {o : Oper} {a : Act} {Q : Exit → Act → World → Prop}
    (hg : o.guard = none) (s x : Operand) (t : TypeId) (hop : o.op = Op.call { callee := Callee.builtin Builtin.append, args := #[s, x], argTypes := #[t, t] })
    (e : TypeId) (i : TypeInfo) (h1 : P.underlying t = some (.slice e)) (h2 : P.info? e = some i)
    (g off k cap : Nat) (hk : k ≤ cap) (hs : a.eval s = .slice (some ⟨g, off, none⟩) k cap) (ad : Option Addr) (c : Nat) (hx : a.eval x = .slice ad 0 c)
    (hK : wpListIn F n P ops Q rest (a.put o.dst (.slice (some ⟨g, off, none⟩) k cap)) w) :
    wpListIn F n P ops Q (o :: rest) a w := by
  refine wpListIn_plain hg fun K hK' => ?_
  have hsrc : Src P i.size t (.slice ad 0 c) 0 [] w := by
    cases ad with
    | none => exact Src.ofNil w h1 c
    | some ad => exact Src.ofSlice w h1 ad 0 c [] (by simp) (fun j u h => by simp at h) (fun _ h => by cases h)
  have hrun := run_append_room_src (P := P) w t t o.type e i h1 h2 g off k cap _ 0 [] hsrc (by omega) (fun j h => by simp at h) (fun j h => by simp at h)
  have he : w.setCells g (off + k * i.size) [] = w := rfl
  rw [he, Nat.add_zero] at hrun
  unfold Oper.wpIn
  refine ⟨?_, ?_⟩
  · simp [Oper.about, hop, resolve, Target.leads, Sem.run_pure]
  · rw [Oper.semAt_plain F _ _ (by rw [hop]; intro c hc'; cases hc')]
    simp [execOp, hop, resolve, invoke, builtin, hs, hx, hrun, Result.andThen]
    exact hK' _ _ hK

set_option maxRecDepth 100000 in
set_option maxHeartbeats 8000000 in
/-- **'moved'.** -/
theorem moved_calls (w : World) (va : Value) (x n L : Nat) (ha : MagAt w va x) (hx : x < B ^ L) (hL : L ≤ 100000000) (hn : n ≤ 100000000) :
    CallsIn Fence.wide 0 Tryz.prog 150 #[va, .int .i64 (n : Int)] w fun e w' => ∃ v', e = .returned v' ∧ (MagAt w' v' (x * B ^ n) ∧ Fresh w.heap.size v') ∧ Below w.heap.size w w' := by
  obtain ⟨k, hk, hla⟩ := ha
  have hkL := hk.le hx
  clear hx
  obtain ⟨o1, c1, rfl, h1⟩ := hla.form
  have H1 := Hid.intro h1
  have HK := Hid.intro hk
  clear h1 hk hla
  have hlt : x * B ^ n < B ^ (n + k) := by
    rw [Nat.pow_add, Nat.mul_comm]
    exact Nat.mul_lt_mul_of_pos_left HK.out.1 (pow_pos' n)
  have HLT := Hid.intro hlt
  clear hlt
  refine callsIn_of_wp Tryz.func150 rfl trivial ?_ rfl
  simp only [Tryz.ntmps150, List.size_toArray, List.length_cons, List.length_nil, Nat.reduceAdd, Nat.reduceSub, Array.replicate_succ, Array.replicate_zero, List.push_toArray, List.append_toArray, List.nil_append, List.cons_append]
  gi_wp2_with (gi_at_make; refine stop ?_)
  unfold Stop
  refine wpListIn_make_part _ rfl _ _ _ rfl w.heap.size 111 Tryz.t111 _ 1 Go.Num.u23 t111_info t111_zero t111_size _ _ _ _ n (n + k) rfl rfl (by omega) (by omega) (by omega) (by rw [t111_bytes]; omega) (by unfold maxLen; omega) (Nat.le_refl _) ?_
  intro W4 hown hgrow
  have HB4 : Hid (Below w.heap.size w W4) := (Below.refl _ w).grown hgrow (Nat.le_refl _) (fun _ h => by cases h)
  have HO4 : Hid (W4.ownsRow w.heap.size 111 1 (.slice (some ⟨w.heap.size, 0, none⟩) n (n + k)) n (madeCells #[Value.int .u64 0] n).toList) := by
    have e := take_made (.int .u64 0) n (n + k) (by omega)
    have h := hown
    rw [Nat.mul_one, Nat.mul_one] at h
    rw [← e]
    exact h
  obtain ⟨g, hg'⟩ : ∃ g, w.heap.size = g := ⟨_, rfl⟩
  rw [hg'] at HO4
  rw [hg']
  clear hown hgrow
  by_cases hk0 : k = 0
  · subst hk0
    gi_wp2_with (gi_at_builtin; refine stop ?_)
    unfold Stop
    refine wpListIn_append_nothing _ rfl _ _ _ rfl _ Tryz.t111 Go.Num.u23 t111_info g 0 n n (Nat.le_refl _) rfl o1 c1 rfl ?_
    have hla : LimbsAt W4 (.slice (some ⟨g, 0, none⟩) n n) (x * B ^ n) n := by
      refine row_limbs (base := g) ?_ (by omega)
      have := firstL_moved x n 0
      rw [Nat.add_zero] at this
      rw [← this]
      have h0 : firstL x 0 = [] := rfl
      rw [h0, List.append_nil]
      exact HO4.out
    have HT := Hid.intro (trim_calls W4 _ (x * B ^ n) n hla HLT.out)
    clear hla
    gi_wp2_with (gi_at_call 107; refine HT.out.mono ?_; rintro e w7 ⟨v', rfl, hm, hB7⟩; have HM := Hid.intro hm; have HB7 := Hid.intro (HB4.out.trans (hB7.mono HB4.out.size)); clear hm hB7)
    all_goals (first | go_returns | go_ret | go_end0)
    exact ⟨v', rfl, ⟨HM.out.1, fresh_of HM.out.2 (by show w.heap.size ≤ g; omega)⟩, HB7.out⟩
  · obtain ⟨a1, rfl, ha1, hc1'⟩ := H1.out (by omega)
    have HC1 := Hid.intro hc1'
    clear hc1'
    gi_wp2_with (gi_at_builtin; refine stop ?_)
    unfold Stop
    refine wpListIn_append_fits _ rfl _ _ _ rfl g 111 Tryz.t111 1 Go.Num.u23 t111_info t111_size g n (n + k) _ rfl HO4.out a1 k c1 (firstL x k) rfl (by rw [firstL_len]; omega) ?_ ?_ (Nat.le_refl _) ?_
    · intro j u hu
      have hj : j < k := by
        have := (List.getElem?_eq_some_iff.1 hu).1
        rw [firstL_len] at this
        exact this
      have hcell := (HB4.out.cell (p := a1.add j) (by rw [add_block]; exact ha1)).trans (HC1.out j hj)
      rw [hcell, ← hu]
      simp [firstL, hj]
    · intro u hu
      unfold firstL at hu
      obtain ⟨i, _, rfl⟩ := List.mem_map.1 hu
      rfl
    · intro w5 hown5 hgrow5
      have HB5 : Hid (Below w.heap.size w w5) := HB4.out.grown hgrow5 HB4.out.size (fun k h => by cases h; omega)
      rw [firstL_moved] at hown5
      have hla := row_limbs hown5 (by omega)
      have HT := Hid.intro (trim_calls w5 _ (x * B ^ n) (n + k) hla HLT.out)
      clear hla hown5 hgrow5
      gi_wp2_with (gi_at_call 107; refine HT.out.mono ?_; rintro e w7 ⟨v', rfl, hm, hB7⟩; have HM := Hid.intro hm; have HB7 := Hid.intro (HB5.out.trans (hB7.mono HB5.out.size)); clear hm hB7)
      all_goals (first | go_returns | go_ret | go_end0)
      exact ⟨v', rfl, ⟨HM.out.1, fresh_of HM.out.2 (by show w.heap.size ≤ g; omega)⟩, HB7.out⟩
end Go.Num
