/-
  The closed run of 'awake'.
  Conditions: none.
-/
import Derived.Test.YtoamcgjbelhnkaaGreatDoorStrY
import Derived.Lib.SmallJoins
import Derived.RecoverIn

namespace Go.Num
open Go.Eng Go.Shelf Go.RowKit Go.Proofs Go.Proofs.YtoamcgjbelhnkaaGreatDoor

/-- What the library's functions lean on. -/
structure Laid (w : World) : Prop where
  pow : Pow10 w
  len : ∃ m, w.cell? ⟨0, 0, none⟩ = some (.int .i64 m)
theorem Laid.below {w w' : World} (h : Laid w) (hb : Below w.heap.size w w') : Laid w' := by
  obtain ⟨h1, m, h2⟩ := h
  exact ⟨h1.below hb, m, (hb.cell (World.block_lt_of_cell? _ _ h2)).trans h2⟩

/-! ### A number out of its limbs -/
def numOf : List Nat → Nat
  | [] => 0
  | d :: r => d + B * numOf r
def limbsOf : AV → Option (List Nat)
  | .nil => some []
  | .cons (.sc (.int .u64 (.ofNat n))) t => (limbsOf t).map (n :: ·)
  | _ => none
def okLimbs : List Nat → Bool
  | [] => true
  | [d] => Nat.blt d 1000000000 && Nat.blt 0 d
  | d :: r => Nat.blt d 1000000000 && okLimbs r
theorem blt_iff {a b : Nat} (h : Nat.blt a b = true) : a < b := Nat.le_of_ble_eq_true h
theorem okLimbs_lt : ∀ {l : List Nat}, okLimbs l = true → ∀ d ∈ l, d < B
  | [], _, d, h => by cases h
  | [x], h, d, hd => by
    simp only [okLimbs, Bool.and_eq_true] at h
    have := blt_iff h.1
    rcases List.mem_cons.1 hd with rfl | hd
    · exact this
    · cases hd
  | x :: y :: r, h, d, hd => by
    simp only [okLimbs, Bool.and_eq_true] at h
    have := blt_iff h.1
    rcases List.mem_cons.1 hd with rfl | hd
    · exact this
    · exact okLimbs_lt h.2 d hd
theorem numOf_limb : ∀ {l : List Nat}, (∀ d ∈ l, d < B) → ∀ (i d : Nat), l[i]? = some d → limb (numOf l) i = d
  | [], _, i, d, h => by simp at h
  | x :: r, hl, 0, d, h => by
    have h : x = d := by simpa using h
    subst h
    have hx := hl x (List.mem_cons_self)
    unfold limb numOf
    rw [Nat.pow_zero, Nat.div_one, Nat.add_mul_mod_self_left, Nat.mod_eq_of_lt hx]
  | x :: r, hl, i + 1, d, h => by
    have hx := hl x (List.mem_cons_self)
    have ih := numOf_limb (l := r) (fun d hd => hl d (List.mem_cons_of_mem _ hd)) i d (by simpa using h)
    rw [← ih]
    unfold limb
    congr 1
    show (x + B * numOf r) / B ^ (i + 1) = numOf r / B ^ i
    rw [Nat.pow_succ, Nat.mul_comm (B ^ i), ← Nat.div_div_eq_div_mul, Nat.add_mul_div_left _ _ (by decide), Nat.div_eq_of_lt hx, Nat.zero_add]
theorem numOf_lt : ∀ {l : List Nat}, (∀ d ∈ l, d < B) → numOf l < B ^ l.length
  | [], _ => by decide
  | x :: r, hl => by
    have hx := hl x (List.mem_cons_self)
    have ih := numOf_lt (l := r) (fun d hd => hl d (List.mem_cons_of_mem _ hd))
    show x + B * numOf r < B ^ (r.length + 1)
    have h2 : B * (numOf r + 1) ≤ B * B ^ r.length := Nat.mul_le_mul_left _ ih
    rw [Nat.mul_add, Nat.mul_one] at h2
    rw [Nat.pow_succ, Nat.mul_comm (B ^ r.length) B]
    omega
theorem okLimbs_top : ∀ {l : List Nat}, okLimbs l = true → l ≠ [] → B ^ (l.length - 1) ≤ numOf l
  | [], _, h => absurd rfl h
  | [x], h, _ => by
    simp only [okLimbs, Bool.and_eq_true] at h
    have := blt_iff h.2
    show B ^ 0 ≤ x + B * 0
    rw [Nat.pow_zero]; omega
  | x :: y :: r, h, _ => by
    simp only [okLimbs, Bool.and_eq_true] at h
    have ih := okLimbs_top (l := y :: r) h.2 (by simp)
    show B ^ (r.length + 1) ≤ x + B * numOf (y :: r)
    have ih : B ^ r.length ≤ numOf (y :: r) := ih
    have := Nat.mul_le_mul_left B ih
    rw [Nat.pow_succ, Nat.mul_comm]
    omega
theorem okLimbs_len {l : List Nat} (h : okLimbs l = true) : LenIs (numOf l) l.length := by
  refine ⟨numOf_lt (okLimbs_lt h), ?_⟩
  by_cases e : l = []
  · subst e; exact .inl rfl
  · exact .inr (okLimbs_top h e)
theorem limbsOf_LR {μ : Mu} : ∀ {cs : AV} {l : List Nat} {xs : List Value}, limbsOf cs = some l → LR μ cs xs → xs = l.map fun (d : Nat) => Value.int .u64 (d : Int)
  | .nil, l, xs, h, hx => by
    have h : some [] = some l := h
    cases h
    have hx : xs = [] := hx
    rw [hx]; rfl
  | .cons (.sc (.int .u64 (.ofNat n))) t, l, xs, h, hx => by
    simp only [limbsOf, Option.map_eq_some_iff] at h
    obtain ⟨r, h1, rfl⟩ := h
    obtain ⟨x, ys, rfl, h2, h3⟩ := hx
    have h2 : x = .int .u64 (n : Int) := h2
    rw [h2, limbsOf_LR h1 h3]; rfl

/-! ### Decimal digits, by fuel -/
def decF : Nat → Nat → List UInt8 → List UInt8
  | 0, _, acc => acc
  | f + 1, n, acc => bif Nat.blt n 10 then UInt8.ofNat (48 + n) :: acc else decF f (n / 10) (UInt8.ofNat (48 + n % 10) :: acc)
theorem decF_eq : ∀ (f n : Nat) (acc : List UInt8), n < 10 ^ f → 0 < f → decF f n acc = Lib.decDigits n ++ acc
  | 0, n, acc, _, h => by omega
  | f + 1, n, acc, h, _ => by
    unfold decF
    cases e : Nat.blt n 10 with
    | true =>
      have := blt_iff e
      rw [Lib.decDigits, dif_pos this]
      rfl
    | false =>
      have hn : ¬ n < 10 := by
        intro h'
        have : Nat.blt n 10 = true := Nat.ble_eq_true_of_le h'
        rw [e] at this; cases this
      have hf : 0 < f := by
        rcases Nat.eq_zero_or_pos f with h0 | h0
        · subst h0; simp at h; omega
        · exact h0
      rw [cond_false, decF_eq f (n / 10) _ (by rw [Nat.pow_succ] at h; omega) hf, Lib.decDigits.eq_def n, dif_neg hn, List.append_assoc]
      rfl

theorem dec_fuel {n k f : Nat} (h : n < B ^ k) (hf : 9 * k ≤ f) (h0 : 0 < f) : decF f n [] = Lib.decDigits n := by
  rw [decF_eq f n [] (Nat.lt_of_lt_of_le (by rw [← pow9]; exact h) (Nat.pow_le_pow_right (by decide) hf)) h0, List.append_nil]
def strA (l : List UInt8) : AV := .sc (.str ⟨⟨l⟩⟩)
/-- What is told. -/
def O59 (args : AV) : Option AV :=
  match args with
  | .cons (.sc (.str s)) (.cons (.sc (.str p)) .nil) => bif Nat.blt s.data.toList.length 4000000000 then
      some (.tup (.cons (strA (Lib.cut s.data.toList p.data.toList).1) (.cons (strA (Lib.cut s.data.toList p.data.toList).2.1) (.cons (.sc (.bool (Lib.cut s.data.toList p.data.toList).2.2)) .nil)))) else none
  | _ => none
def O60 (args : AV) : Option AV :=
  match args with
  | .cons (.sc (.str s)) (.cons (.sc (.str p)) .nil) => some (.tup (.cons (strA (Lib.trimPrefix s.data.toList p.data.toList)) (.cons (.sc (.bool (Lib.hasPrefix s.data.toList p.data.toList))) .nil)))
  | _ => none
def O105 (args : AV) : Option AV :=
  match args with
  | .cons (.sc (.str s)) (.cons (.sc (.str ⟨⟨[c]⟩⟩)) .nil) => bif Nat.blt s.data.toList.length 4000000000 && Nat.blt c.toNat 128 then some (strA (Lib.trimB s.data.toList c)) else none
  | _ => none
def O106 (args : AV) : Option AV :=
  match args with
  | .cons (.sc (.str s)) r => bif Nat.blt s.data.toList.length 4000000000 && r.beq (.cons (.sc (.int .i64 10)) (.cons (.sc (.int .i64 64)) .nil)) then
      match Lib.parseUintB 64 s.data.toList with
      | .ok u => some (.tup (.cons (.sc (.int .u64 (u : Int))) (.cons (.sc .nilIface) .nil)))
      | _ => none
    else none
  | _ => none
def O71 (args : AV) (H : AH) : Option AV :=
  match args with
  | .cons (.sc .nilSlice) .nil => some (strA [48])
  | .cons (.slc i o len _ _ e) .nil => bif Nat.beq e 1 then
      match H.cellsAt i o len with
      | some cs => match limbsOf cs with
        | some l => bif okLimbs l && Nat.ble l.length 1000 then some (strA (decF 9000 (numOf l) [])) else none
        | none => none
      | none => none
    else none
  | _ => none
def OA (f : FuncId) (args : AV) (H : AH) : Option (AV × AH) :=
  (bif Nat.beq f 59 then O59 args else bif Nat.beq f 60 then O60 args else bif Nat.beq f 105 then O105 args else bif Nat.beq f 106 then O106 args else bif Nat.beq f 71 then O71 args H else none).map fun v => (v, H)
theorem bytesW_below (w : World) (s : ByteArray) : Below w.heap.size w (Lib.bytesWorld w 5 s) :=
  ⟨rfl, rfl, rfl, by rw [Lib.bytesWorld_size]; omega, fun k hk => Lib.bytesWorld_at_old w 5 s k hk⟩
theorem body_of {f : FuncId} (h : (match Tryz.prog.funcs[f]? with | some fn => fn.body.isSome | none => false) = true) : ∃ fn : Func, Tryz.prog.funcs[f]? = some fn ∧ fn.body.isSome = true := by
  split at h
  · rename_i fn e; exact ⟨fn, e, h⟩
  · cases h
theorem str_val (s : ByteArray) : (⟨⟨s.data.toList⟩⟩ : ByteArray) = s := by cases s; rfl
theorem one_arg {μ : Mu} {a : AV} {xs : List Value} (h : LR μ (.cons a .nil) xs) : ∃ x, xs = [x] ∧ VR μ a x := by
  obtain ⟨x, r, rfl, h1, h2⟩ := h
  have h2 : r = [] := h2
  subst h2
  exact ⟨x, rfl, h1⟩
theorem two_arg {μ : Mu} {a b : AV} {xs : List Value} (h : LR μ (.cons a (.cons b .nil)) xs) : ∃ x y, xs = [x, y] ∧ VR μ a x ∧ VR μ b y := by
  obtain ⟨x, r, rfl, h1, h2⟩ := h
  obtain ⟨y, rfl, h3⟩ := one_arg h2
  exact ⟨x, y, rfl, h1, h3⟩
theorem arr_of {xs : Array Value} {l : List Value} (h : xs.toList = l) : xs = l.toArray := Array.toList_inj.1 (by simpa using h)
theorem tup_VR {μ : Mu} {cs : AV} {l : List Value} (h : LR μ cs l) : VR μ (.tup cs) (.tuple l.toArray) := ⟨l.toArray, rfl, h⟩

theorem told_A {w0 : World} {G : Sett} (hL : Laid w0) : CallsOK Tryz.prog w0.heap.size w0 G OA := by
  refine told_ok ?_
  intro f args H v H' ho
  unfold OA at ho
  rw [Option.map_eq_some_iff] at ho
  obtain ⟨v', ho, e⟩ := ho
  cases e
  cases h59 : Nat.beq f 59 with
  | true =>
    rw [h59] at ho
    have hf := (beq_iff _ _).1 h59
    subst hf
    refine ⟨body_of (by kernel_rfl), rfl, ?_⟩
    intro μ w xs hrep hxs
    simp only [cond_true] at ho
    unfold O59 at ho
    split at ho
    · rename_i s p
      cases hb : Nat.blt s.data.toList.length 4000000000 with
      | false => rw [hb] at ho; cases ho
      | true =>
        rw [hb] at ho
        cases ho
        have hsz := blt_iff hb
        obtain ⟨x, y, e, h1, h2⟩ := two_arg hxs
        have h1 : x = .string s := h1
        have h2 : y = .string p := h2
        subst h1; subst h2
        rw [arr_of e]
        obtain ⟨m, hm⟩ := (hL.below hrep.below).len
        refine (Tryz.strings_Cut s p m w (by rw [Lib.size_eq]; omega) hm).mono ?_
        rintro e w' ⟨rfl, n, rfl⟩
        exact ⟨_, rfl, tup_VR (LR.cons rfl (LR.cons rfl (LR.cons rfl LR.nil))), drewN_below _ _⟩
    · cases ho
  | false =>
  rw [h59] at ho
  simp only [cond_false] at ho
  cases h60 : Nat.beq f 60 with
  | true =>
    rw [h60] at ho
    have hf := (beq_iff _ _).1 h60
    subst hf
    refine ⟨body_of (by kernel_rfl), rfl, ?_⟩
    intro μ w xs hrep hxs
    simp only [cond_true] at ho
    unfold O60 at ho
    split at ho
    · rename_i s p
      cases ho
      obtain ⟨x, y, e, h1, h2⟩ := two_arg hxs
      have h1 : x = .string s := h1
      have h2 : y = .string p := h2
      subst h1; subst h2
      rw [arr_of e]
      refine (Tryz.strings_CutPrefix s p w).mono ?_
      rintro e w' ⟨rfl, rfl⟩
      exact ⟨_, rfl, tup_VR (LR.cons rfl (LR.cons rfl LR.nil)), Below.refl _ _⟩
    · cases ho
  | false =>
  rw [h60] at ho
  simp only [cond_false] at ho
  cases h105 : Nat.beq f 105 with
  | true =>
    rw [h105] at ho
    have hf := (beq_iff _ _).1 h105
    subst hf
    refine ⟨body_of (by kernel_rfl), rfl, ?_⟩
    intro μ w xs hrep hxs
    simp only [cond_true] at ho
    unfold O105 at ho
    split at ho
    · rename_i s c
      cases hb : Nat.blt s.data.toList.length 4000000000 && Nat.blt c.toNat 128 with
      | false => rw [hb] at ho; cases ho
      | true =>
        rw [hb] at ho
        cases ho
        rw [Bool.and_eq_true] at hb
        have hsz := blt_iff hb.1
        have hc := blt_iff hb.2
        obtain ⟨x, y, e, h1, h2⟩ := two_arg hxs
        have h1 : x = .string s := h1
        have h2 : y = .string ⟨⟨[c]⟩⟩ := h2
        subst h1; subst h2
        rw [arr_of e]
        refine (Tryz.strings_Trim_one s c hc w (by rw [Lib.size_eq]; omega)).mono ?_
        rintro e w' ⟨rfl, rfl | rfl⟩
        · exact ⟨_, rfl, rfl, Below.refl _ _⟩
        · exact ⟨_, rfl, rfl, drew_below _⟩
    · cases ho
  | false =>
  rw [h105] at ho
  simp only [cond_false] at ho
  cases h106 : Nat.beq f 106 with
  | true =>
    rw [h106] at ho
    have hf := (beq_iff _ _).1 h106
    subst hf
    refine ⟨body_of (by kernel_rfl), rfl, ?_⟩
    intro μ w xs hrep hxs
    simp only [cond_true] at ho
    unfold O106 at ho
    split at ho
    · rename_i s r
      cases hb : Nat.blt s.data.toList.length 4000000000 && r.beq (.cons (.sc (.int .i64 10)) (.cons (.sc (.int .i64 64)) .nil)) with
      | false => rw [hb] at ho; cases ho
      | true =>
        rw [hb] at ho
        simp only [cond_true] at ho
        rw [Bool.and_eq_true] at hb
        have hsz := blt_iff hb.1
        have hr := AV.beq_eq hb.2
        subst hr
        split at ho
        · rename_i u hu
          cases ho
          obtain ⟨x, ys, e, h1, h2⟩ := hxs
          obtain ⟨y, z, rfl, h3, h4⟩ := two_arg h2
          have h1 : x = .string s := h1
          have h3 : y = .int .i64 10 := h3
          have h4 : z = .int .i64 64 := h4
          subst h1; subst h3; subst h4
          rw [arr_of e]
          refine (Tryz.strconv_ParseUint_10_at64_ok s (by rw [Lib.size_eq]; omega) u hu w).mono ?_
          rintro e w' ⟨rfl, rfl | rfl⟩
          · exact ⟨_, rfl, tup_VR (LR.cons rfl (LR.cons rfl LR.nil)), Below.refl _ _⟩
          · exact ⟨_, rfl, tup_VR (LR.cons rfl (LR.cons rfl LR.nil)), bytesW_below _ _⟩
        · cases ho
    · cases ho
  | false =>
  rw [h106] at ho
  simp only [cond_false] at ho
  cases h71 : Nat.beq f 71 with
  | false => rw [h71] at ho; cases ho
  | true =>
    rw [h71] at ho
    have hf := (beq_iff _ _).1 h71
    subst hf
    refine ⟨body_of (by kernel_rfl), rfl, ?_⟩
    intro μ w xs hrep hxs
    simp only [cond_true] at ho
    unfold O71 at ho
    have hP := (hL.below hrep.below).pow
    split at ho
    · cases ho
      obtain ⟨x, e, h1⟩ := one_arg hxs
      have h1 : x = .slice none 0 0 := h1
      subst h1
      rw [arr_of e]
      refine (callsIn_wide.1 (mString_form w _ 0 0 lenIs_zero ⟨none, 0, rfl, fun h => by omega⟩ (pow_pos' 100000) hP)).mono ?_
      rintro e w' ⟨rfl, hB⟩
      refine ⟨_, rfl, ?_, hB⟩
      show _ = Value.string _
      rw [Lib.decDigits, dif_pos (by decide)]
      rfl
    · rename_i i o len cm ex e
      cases hb : Nat.beq e 1 with
      | false => rw [hb] at ho; cases ho
      | true =>
        rw [hb] at ho
        simp only [cond_true] at ho
        have he := (beq_iff _ _).1 hb
        subst he
        split at ho
        · rename_i cs hcs
          split at ho
          · rename_i l hl
            cases hb : okLimbs l && Nat.ble l.length 1000 with
            | false => rw [hb] at ho; cases ho
            | true =>
              rw [hb] at ho
              cases ho
              rw [Bool.and_eq_true] at hb
              have hlen := Nat.le_of_ble_eq_true hb.2
              obtain ⟨x, e, b, N, c, hm, rfl, _, _, _, _⟩ := one_arg hxs
              rw [arr_of e]
              obtain ⟨xs2, h1, h2, h3⟩ := hrep.load hcs hm
              have hxl := limbsOf_LR hl h2
              have hll : l.length = len := by rw [← h1, hxl, List.length_map]
              have hlt := okLimbs_lt hb.1
              have hN : numOf l < B ^ 1000 := lt_lift 1000 (numOf_lt hlt) hlen
              refine (callsIn_wide.1 (mString_form w _ (numOf l) len (hll ▸ okLimbs_len hb.1) ⟨_, c, rfl, fun hk => ⟨⟨b, o, none⟩, rfl, (hrep.dom i b N hm).2, fun j hj => ?_⟩⟩ (lt_lift 100000 hN (by decide)) hP)).mono ?_
              · obtain ⟨d, hd⟩ : ∃ d, l[j]? = some d := ⟨_, List.getElem?_eq_getElem (by omega)⟩
                rw [numOf_limb hlt j d hd]
                exact h3 j _ (by rw [hxl, List.getElem?_map, hd]; rfl)
              · rintro e w' ⟨rfl, hB⟩
                refine ⟨_, rfl, ?_, hB⟩
                show _ = Value.string _
                rw [dec_fuel (k := 1000) hN (by decide) (by decide)]
          · cases ho
        · cases ho
    · cases ho
end Go.Num

namespace Go.Num
open Go.Eng Go.Shelf Go.RowKit Go.Proofs Go.Proofs.YtoamcgjbelhnkaaGreatDoor

theorem results109 : Tryz.f109.results = #[] := rfl
theorem still_109 : StillFn Tryz.prog 109 := by
  refine ⟨body_of (by kernel_rfl), fun args w => ?_⟩
  refine CallsDIn.mono (callsDIn_of_wpSIn (R := fun e u' w' => e = .returned (.tuple #[]) ∧ u' = .returning ∧ w' = w) Tryz.func109 rfl trivial fun c₀ cs hu => ?_) ?_
  · obtain ⟨T, hT⟩ : ∃ T, args ++ Array.replicate (Tryz.f109.ntmps - args.size) undef = T := ⟨_, rfl⟩
    have hsz : 18 ≤ T.size := by
      rw [← hT]
      have : Tryz.f109.ntmps = 18 := rfl
      rw [this]
      simp
      omega
    rw [hT]
    clear hT
    apply wpSIn_seq
    apply wpSIn_region
    have s6 : 6 < T.size := by omega
    have s2 : 2 < T.size := by omega
    have s7 : 7 < T.size := by omega
    have s8 : 8 < T.size := by omega
    simp [wpOpsSIn, go_sem, recoverD, hu, Exit.thenS, s6]
    apply wpSIn_seq
    apply wpSIn_region
    simp [wpOpsSIn, go_sem, Exit.thenS, s2, s7]
    refine wpSIn_cond (t := false) (by simp [Act.eval, s8]) ?_
    simp only [Bool.false_eq_true, if_false]
    refine wpSIn_of_wpIn rfl (wpIn_skip ?_)
    cases c₀
    simp_all [bodyPostS, results]
  · rintro e u' w' ⟨rfl, rfl, rfl⟩
    exact ⟨⟨_, rfl⟩, rfl, rfl, Below.refl _ _⟩
theorem results120 : Tryz.f120.results = #[] := rfl
theorem still_120 : StillFn Tryz.prog 120 := by
  refine ⟨body_of (by kernel_rfl), fun args w => ?_⟩
  refine CallsDIn.mono (callsDIn_of_wpSIn (R := fun e u' w' => e = .returned (.tuple #[]) ∧ u' = .returning ∧ w' = w) Tryz.func120 rfl trivial fun c₀ cs hu => ?_) ?_
  · obtain ⟨T, hT⟩ : ∃ T, args ++ Array.replicate (Tryz.f120.ntmps - args.size) undef = T := ⟨_, rfl⟩
    have hsz : 18 ≤ T.size := by
      rw [← hT]
      have : Tryz.f120.ntmps = 18 := rfl
      rw [this]
      simp
      omega
    rw [hT]
    clear hT
    apply wpSIn_seq
    apply wpSIn_region
    have s6 : 6 < T.size := by omega
    have s2 : 2 < T.size := by omega
    have s7 : 7 < T.size := by omega
    have s8 : 8 < T.size := by omega
    simp [wpOpsSIn, go_sem, recoverD, hu, Exit.thenS, s6]
    apply wpSIn_seq
    apply wpSIn_region
    simp [wpOpsSIn, go_sem, Exit.thenS, s2, s7]
    refine wpSIn_cond (t := false) (by simp [Act.eval, s8]) ?_
    simp only [Bool.false_eq_true, if_false]
    refine wpSIn_of_wpIn rfl (wpIn_skip ?_)
    cases c₀
    simp_all [bodyPostS, results]
  · rintro e u' w' ⟨rfl, rfl, rfl⟩
    exact ⟨⟨_, rfl⟩, rfl, rfl, Below.refl _ _⟩
theorem results125 : Tryz.f125.results = #[] := rfl
theorem still_125 : StillFn Tryz.prog 125 := by
  refine ⟨body_of (by kernel_rfl), fun args w => ?_⟩
  refine CallsDIn.mono (callsDIn_of_wpSIn (R := fun e u' w' => e = .returned (.tuple #[]) ∧ u' = .returning ∧ w' = w) Tryz.func125 rfl trivial fun c₀ cs hu => ?_) ?_
  · obtain ⟨T, hT⟩ : ∃ T, args ++ Array.replicate (Tryz.f125.ntmps - args.size) undef = T := ⟨_, rfl⟩
    have hsz : 18 ≤ T.size := by
      rw [← hT]
      have : Tryz.f125.ntmps = 18 := rfl
      rw [this]
      simp
      omega
    rw [hT]
    clear hT
    apply wpSIn_seq
    apply wpSIn_region
    have s6 : 6 < T.size := by omega
    have s2 : 2 < T.size := by omega
    have s7 : 7 < T.size := by omega
    have s8 : 8 < T.size := by omega
    simp [wpOpsSIn, go_sem, recoverD, hu, Exit.thenS, s6]
    apply wpSIn_seq
    apply wpSIn_region
    simp [wpOpsSIn, go_sem, Exit.thenS, s2, s7]
    refine wpSIn_cond (t := false) (by simp [Act.eval, s8]) ?_
    simp only [Bool.false_eq_true, if_false]
    refine wpSIn_of_wpIn rfl (wpIn_skip ?_)
    cases c₀
    simp_all [bodyPostS, results]
  · rintro e u' w' ⟨rfl, rfl, rfl⟩
    exact ⟨⟨_, rfl⟩, rfl, rfl, Below.refl _ _⟩
theorem results137 : Tryz.f137.results = #[] := rfl
theorem still_137 : StillFn Tryz.prog 137 := by
  refine ⟨body_of (by kernel_rfl), fun args w => ?_⟩
  refine CallsDIn.mono (callsDIn_of_wpSIn (R := fun e u' w' => e = .returned (.tuple #[]) ∧ u' = .returning ∧ w' = w) Tryz.func137 rfl trivial fun c₀ cs hu => ?_) ?_
  · obtain ⟨T, hT⟩ : ∃ T, args ++ Array.replicate (Tryz.f137.ntmps - args.size) undef = T := ⟨_, rfl⟩
    have hsz : 18 ≤ T.size := by
      rw [← hT]
      have : Tryz.f137.ntmps = 18 := rfl
      rw [this]
      simp
      omega
    rw [hT]
    clear hT
    apply wpSIn_seq
    apply wpSIn_region
    have s6 : 6 < T.size := by omega
    have s2 : 2 < T.size := by omega
    have s7 : 7 < T.size := by omega
    have s8 : 8 < T.size := by omega
    simp [wpOpsSIn, go_sem, recoverD, hu, Exit.thenS, s6]
    apply wpSIn_seq
    apply wpSIn_region
    simp [wpOpsSIn, go_sem, Exit.thenS, s2, s7]
    refine wpSIn_cond (t := false) (by simp [Act.eval, s8]) ?_
    simp only [Bool.false_eq_true, if_false]
    refine wpSIn_of_wpIn rfl (wpIn_skip ?_)
    cases c₀
    simp_all [bodyPostS, results]
  · rintro e u' w' ⟨rfl, rfl, rfl⟩
    exact ⟨⟨_, rfl⟩, rfl, rfl, Below.refl _ _⟩
end Go.Num

namespace Go.Num
open Go.Eng Go.Shelf Go.RowKit Go.Proofs Go.Proofs.YtoamcgjbelhnkaaGreatDoor

def isTrue : Option (AV × AH) → Bool
  | some (.sc (.bool true), _) => true
  | _ => false
theorem awake_run : isTrue ((cb Tryz.prog [] OA [109, 120, 125, 137] 3000).call 14 .nil (bare [])) = true := by kernel_rfl
theorem isTrue_eq {r : Option (AV × AH)} (h : isTrue r = true) : ∃ H, r = some (.sc (.bool true), H) := by
  unfold isTrue at h
  split at h
  · exact ⟨_, rfl⟩
  · cases h
theorem still_all : ∀ g ∈ [109, 120, 125, 137], StillFn Tryz.prog g := by
  intro g hg
  simp at hg
  rcases hg with rfl | rfl | rfl | rfl
  · exact still_109
  · exact still_120
  · exact still_125
  · exact still_137
/-- **'awake'.** -/
theorem awake_calls {w : World} (h : Laid w) : Calls Tryz.prog 14 #[] w fun e w' => e = .returned (.bool true) ∧ Below w.heap.size w w' := by
  obtain ⟨H', hr⟩ := isTrue_eq awake_run
  refine (calls_of_run (G := noSett) follows namesOK (told_A h) still_all hr (bare_rep rfl w) (by rfl)).mono ?_
  rintro e w' ⟨x, μ', rfl, _, hx, hrep⟩
  have hx' : x = .bool true := hx
  exact ⟨by rw [hx'], hrep.below⟩
theorem awake_laid {w : World} (h : Laid w) : Awake w := fun _w' hb => callsIn_wide.2 (awake_calls (h.below hb))
end Go.Num
