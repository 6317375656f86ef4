/-
  An integer of the machine as a fraction of the program. An integer of the machine as one of the reference, and as a fraction of the program.
  Conditions: see each statement.
-/
import Derived.Test.YtepakfjilnpodaaGreatDoorPAAO
import Derived.Laws.BytesArg
namespace Go.Num
open Go.RowKit Go.Proofs Go.Proofs.YtepakfjilnpodaaGreatDoor Go.Eng
variable {E : Env}

def TZ2 (L : Nat) (F : List Fact) : TTab := TTab.or (t2 152 (tgZ F) (tgZ F) (fun a b => Nat.ble (sz L a) 50000 && Nat.ble (sz L b) 50000) fun a b => .cons (zr F (.bin 2 a b)) .nil) (TZ L F)
theorem toldZ2 {L : Nat} (hE : EnvOK L E) {F : List Fact} (hF : Facts E F) : ToldT Tryz.prog (GN E) (TZ2 L F) := by
  have mZ := fun a x h v w hp => tgZ_ok (E := E) hF a x h v w hp
  refine ToldT.or (told_t2 ⟨_, Tryz.func152, rfl⟩ _ _ mZ mZ ?_) (toldZ hE hF)
  intro a b hc w v u hv hu
  simp only [Bool.and_eq_true] at hc
  refine (callsIn_wide.1 (zsub_calls w v u _ _ hv hu (lt_lift 50000 (ev_sz hE a).1 (Nat.le_of_ble_eq_true hc.1)) (lt_lift 50000 (ev_sz hE b).1 (Nat.le_of_ble_eq_true hc.2)))).mono ?_
  rintro e w' ⟨v', rfl, hz, hb⟩
  exact ⟨v', rfl, (zr_ok hF _ v' w').2 hz, hb⟩

/-- **'Cmp' of integers.** -/
theorem zcmp_calls (w : World) (u v : Value) (x y : Int) (hu : ZAt w u x) (hv : ZAt w v y) (hx : x.natAbs < B ^ 50000) (hy : y.natAbs < B ^ 50000) :
    CallsIn Fence.wide 0 Tryz.prog 99 #[u, v] w fun e w' => e = .returned (.int .i64 (x - y).sign) ∧ Below w.heap.size w w' := by
  refine (runZ (toldZ2 (L := 50000) (envZ_ok' (by omega) hx hy) facts_nil) (n := 50) (r := .tag (.un 109 (.bin 2 l0 l1))) (ts := .cons (zc l0) (.cons (zc l1) .nil)) (by kernel_rfl) (xs := #[u, v]) ⟨u, [v], rfl, zc_leaf hu rfl, v, [], rfl, zc_leaf hv rfl, rfl⟩).mono ?_
  rintro e w' ⟨v', rfl, hp, hB⟩
  have hp : v' = .int .i64 (x - y).sign := hp
  exact ⟨by rw [hp], hB⟩

/-- A fraction of the reference. -/
def QAt (w : World) (v : Value) (q : Rat) : Prop := ∃ m1 m2, v = .agg #[.bool (decide (q.num < 0)), m1, .bool false, m2] ∧ NatI w m1 q.num.natAbs ∧ NatI w m2 q.den
theorem QAt.below {w w' : World} {v : Value} {q : Rat} (h : QAt w v q) (hb : Below w.heap.size w w') : QAt w' v q := by
  obtain ⟨m1, m2, e, h1, h2⟩ := h
  exact ⟨m1, m2, e, h1.below hb, h2.below hb⟩
def cellsQ (a b : AT) : AT :=
  match a, b with
  | .agg (.cons x (.cons y .nil)), .agg (.cons z (.cons u .nil)) => .agg (.cons x (.cons y (.cons z (.cons u .nil))))
  | _, _ => .nil
/-- A fraction's piece. -/
def qc (a : Tg) : AT := .agg (.cons (.tag (.un 107 (.un 30 a))) (.cons (.tag (.un 100 (.un 30 a))) (.cons (.val (.sc (.bool false))) (.cons (.tag (.un 100 (.un 31 a))) .nil))))
theorem qc_ok (a : Tg) (v : Value) (w : World) : PieceOK (GN E) (qc a) v w ↔ QAt w v (evQ E a) := by
  constructor
  · rintro ⟨xs, rfl, x, r, e, h1, y, r2, rfl, h2, z, r3, rfl, h3, u, r4, rfl, h4, h5⟩
    have h5 : r4 = [] := h5
    subst h5
    have e' : xs = #[x, y, z, u] := Array.toList_inj.1 (by simpa using e)
    subst e'
    have h1 : x = .bool (decide ((evQ E a).num < 0)) := h1
    have h3 : some (Value.bool false) = some z := h3
    cases h3
    subst h1
    exact ⟨y, u, rfl, h2, h4⟩
  · rintro ⟨m1, m2, rfl, h1, h2⟩
    exact ⟨_, rfl, _, _, rfl, rfl, _, _, rfl, h1, _, _, rfl, rfl, _, _, rfl, h2, rfl⟩
def tgQ : AT → Option Tg
  | .agg (.cons (.tag (.un 107 (.un 30 a))) (.cons (.tag (.un 100 (.un 30 b))) (.cons (.val (.sc (.bool false))) (.cons (.tag (.un 100 (.un 31 c))) .nil)))) => bif a.beq b && a.beq c then some a else none
  | _ => none
theorem tgQ_ok (a : AT) (x : Tg) (h : tgQ a = some x) (v : Value) (w : World) (hp : PieceOK (GN E) a v w) : QAt w v (evQ E x) := by
  unfold tgQ at h
  split at h
  · rename_i a b c
    cases hb : Tg.beq a b && Tg.beq a c with
    | false => rw [hb] at h; cases h
    | true =>
      rw [hb] at h
      cases h
      simp only [Bool.and_eq_true] at hb
      have h1 := Tg.beq_eq hb.1
      have h2 := Tg.beq_eq hb.2
      subst h1; subst h2
      exact (qc_ok _ v w).1 hp
  · cases h

/-- A quotient of two integers, as a fraction. -/
theorem int_quot {x y : Int} (_hy : y ≠ 0) : ((x : Rat) / (y : Rat)) = frac (decide (x < 0) != decide (y < 0)) x.natAbs y.natAbs := by
  have h1 : (x : Rat) = frac (decide (x < 0)) x.natAbs 1 := (frac_self (x : Rat)).symm
  have h2 : (y : Rat) = frac (decide (y < 0)) y.natAbs 1 := (frac_self (y : Rat)).symm
  rw [h1, h2, frac_over, Nat.mul_one, Nat.one_mul]
theorem quot_parts {x y : Int} (hy : y ≠ 0) : ((x : Rat) / (y : Rat)).num = sgn (decide (x < 0) != decide (y < 0)) (x.natAbs / Nat.gcd x.natAbs y.natAbs) ∧ ((x : Rat) / (y : Rat)).den = y.natAbs / Nat.gcd x.natAbs y.natAbs := by
  have hp := frac_parts (neg := decide (x < 0) != decide (y < 0)) (n := x.natAbs) (d := y.natAbs) (by omega)
  rw [int_quot hy]
  rw [Nat.gcd_comm y.natAbs] at hp
  obtain ⟨h1, h2, h3⟩ := hp
  refine ⟨?_, h2⟩
  obtain ⟨q, hq⟩ : ∃ q, (frac (decide (x < 0) != decide (y < 0)) x.natAbs y.natAbs).num = q := ⟨_, rfl⟩
  rw [hq] at h1 h3 ⊢
  obtain ⟨b, hb⟩ : ∃ b, (decide (x < 0) != decide (y < 0)) = b := ⟨_, rfl⟩
  rw [hb] at h3 ⊢
  rw [← h1]
  cases b with
  | false => unfold sgn; simp at h3 ⊢; omega
  | true =>
    unfold sgn
    simp at h3 ⊢
    by_cases hx : x = 0
    · subst hx
      simp at h1 h3
      omega
    · have := h3.2 hx; omega

/-- **'Ratio'.** -/
theorem ratio_calls (w : World) (u v : Value) (x y : Int) (hu : ZAt w u x) (hv : ZAt w v y) (hx : x.natAbs < B ^ 20000) (hy : y.natAbs < B ^ 20000) (hy0 : y ≠ 0) :
    CallsIn Fence.wide 0 Tryz.prog 92 #[u, v] w fun e w' => ∃ v', e = .returned v' ∧ QAt w' v' ((x : Rat) / (y : Rat)) ∧ Below w.heap.size w w' := by
  have hg : Nat.gcd x.natAbs y.natAbs ≠ 0 := by
    intro h
    have := Nat.eq_zero_of_gcd_eq_zero_right h
    omega
  obtain ⟨hn, hd⟩ := quot_parts (x := x) hy0
  have hdiv := Nat.div_pos (Nat.le_of_dvd (by omega) (Nat.gcd_dvd_right x.natAbs y.natAbs)) (Nat.pos_of_ne_zero hg)
  have hF : ∀ b, decide (y < 0) = b → Facts (envZ x y) [.nz (.bin 14 l0 l1), .neg (.bin 17 l1 (.bin 14 l0 l1)) b] := by
    intro b hb f hf
    rcases List.mem_cons.1 hf with rfl | hf
    · exact hg
    · rcases List.mem_cons.1 hf with rfl | hf
      · show decide (sgn (decide (y < 0) != decide (((Nat.gcd x.natAbs y.natAbs : Nat) : Int) < 0)) (y.natAbs / Nat.gcd x.natAbs y.natAbs) < 0) = b
        have e : decide (((Nat.gcd x.natAbs y.natAbs : Nat) : Int) < 0) = false := decide_eq_false (by omega)
        rw [e, hb]
        cases b with
        | false => exact decide_eq_false (by rw [sgn_neg]; simp)
        | true => exact decide_eq_true (by rw [sgn_neg]; exact ⟨rfl, hdiv⟩)
      · cases hf
  have e0 : decide (((Nat.gcd x.natAbs y.natAbs : Nat) : Int) < 0) = false := decide_eq_false (by omega)
  cases hby : decide (y < 0) with
  | false =>
    refine (runZ (toldZ2 (L := 20000) (envZ_ok' (by omega) hx hy) (hF _ hby)) (n := 60) (r := cellsQ (zc (.bin 17 l0 (.bin 14 l0 l1))) (zs false (.bin 17 l1 (.bin 14 l0 l1)))) (ts := .cons (zc l0) (.cons (zc l1) .nil)) (by kernel_rfl) (xs := #[u, v]) ⟨u, [v], rfl, zc_leaf hu rfl, v, [], rfl, zc_leaf hv rfl, rfl⟩).mono ?_
    rintro e w' ⟨v', rfl, ⟨xs, rfl, a, r, e1, h1, b, r2, rfl, h2, c, r3, rfl, h3, d, r4, rfl, h4, h5⟩, hB⟩
    have h5 : r4 = [] := h5
    subst h5
    have e' : xs = #[a, b, c, d] := Array.toList_inj.1 (by simpa using e1)
    subst e'
    have h3 : some (Value.bool false) = some c := h3
    cases h3
    have en : evZ (envZ x y) (.bin 17 l0 (.bin 14 l0 l1)) = ((x : Rat) / (y : Rat)).num := by
      rw [hn, hby]
      show sgn (decide (x < 0) != decide (((Nat.gcd x.natAbs y.natAbs : Nat) : Int) < 0)) (x.natAbs / Nat.gcd x.natAbs y.natAbs) = _
      rw [e0]
    have ed : evN (envZ x y) (.bin 17 l1 (.bin 14 l0 l1)) = ((x : Rat) / (y : Rat)).den := by
      rw [hd]
      exact sgn_abs _ _
    refine ⟨_, rfl, ⟨b, d, ?_, ?_, ?_⟩, hB⟩
    · have h1 : a = .bool (decide (evZ (envZ x y) (.bin 17 l0 (.bin 14 l0 l1)) < 0)) := h1
      rw [h1, en]
    · rw [← en]; exact h2
    · rw [← ed]; exact h4
  | true =>
    refine (runZ (toldZ2 (L := 20000) (envZ_ok' (by omega) hx hy) (hF _ hby)) (n := 60) (r := cellsQ (zc (.un 1 (.bin 17 l0 (.bin 14 l0 l1)))) (zc (.un 1 (.bin 17 l1 (.bin 14 l0 l1))))) (ts := .cons (zc l0) (.cons (zc l1) .nil)) (by kernel_rfl) (xs := #[u, v]) ⟨u, [v], rfl, zc_leaf hu rfl, v, [], rfl, zc_leaf hv rfl, rfl⟩).mono ?_
    rintro e w' ⟨v', rfl, ⟨xs, rfl, a, r, e1, h1, b, r2, rfl, h2, c, r3, rfl, h3, d, r4, rfl, h4, h5⟩, hB⟩
    have h5 : r4 = [] := h5
    subst h5
    have e' : xs = #[a, b, c, d] := Array.toList_inj.1 (by simpa using e1)
    subst e'
    have en : evZ (envZ x y) (.un 1 (.bin 17 l0 (.bin 14 l0 l1))) = ((x : Rat) / (y : Rat)).num := by
      rw [hn, hby]
      show -sgn (decide (x < 0) != decide (((Nat.gcd x.natAbs y.natAbs : Nat) : Int) < 0)) (x.natAbs / Nat.gcd x.natAbs y.natAbs) = _
      rw [e0]
      cases decide (x < 0) <;> simp [sgn]
    have ez : evZ (envZ x y) (.un 1 (.bin 17 l1 (.bin 14 l0 l1))) = ((y.natAbs / Nat.gcd x.natAbs y.natAbs : Nat) : Int) := by
      show -sgn (decide (y < 0) != decide (((Nat.gcd x.natAbs y.natAbs : Nat) : Int) < 0)) (y.natAbs / Nat.gcd x.natAbs y.natAbs) = _
      rw [e0, hby]
      simp [sgn]
    have ed : evN (envZ x y) (.un 1 (.bin 17 l1 (.bin 14 l0 l1))) = ((x : Rat) / (y : Rat)).den := by
      rw [hd]
      show (evZ (envZ x y) (.un 1 (.bin 17 l1 (.bin 14 l0 l1)))).natAbs = _
      rw [ez]; rfl
    refine ⟨_, rfl, ⟨b, d, ?_, ?_, ?_⟩, hB⟩
    · have h1 : a = .bool (decide (evZ (envZ x y) (.un 1 (.bin 17 l0 (.bin 14 l0 l1))) < 0)) := h1
      have h3 : c = .bool (decide (evZ (envZ x y) (.un 1 (.bin 17 l1 (.bin 14 l0 l1))) < 0)) := h3
      rw [h1, en, h3, ez]
      have : decide (((y.natAbs / Nat.gcd x.natAbs y.natAbs : Nat) : Int) < 0) = false := decide_eq_false (by omega)
      rw [this]
    · rw [← en]; exact h2
    · rw [← ed]; exact h4

/-! ### The fractions' table -/
def TQ0 (L : Nat) (F : List Fact) : TTab := TTab.or (t2 92 (tgZ F) (tgZ F) (fun a b => Nat.ble (sz L a) 20000 && Nat.ble (sz L b) 20000 && hasNz F b) fun a b => .cons (qc (.bin 40 a b)) .nil) <|
  TTab.or (t2 99 (tgZ F) (tgZ F) (fun a b => Nat.ble (sz L a) 50000 && Nat.ble (sz L b) 50000) fun a b => one (.un 109 (.bin 2 a b))) (TZ2 L F)
theorem bleZ {L M : Nat} (hE : EnvOK L E) {a : Tg} (h : Nat.ble (sz L a) M = true) : (evZ E a).natAbs < B ^ M := Nat.lt_of_lt_of_le (ev_sz hE a).1 (pow_mono (Nat.le_of_ble_eq_true h))
theorem toldQ0 {L : Nat} (hE : EnvOK L E) {F : List Fact} (hF : Facts E F) : ToldT Tryz.prog (GN E) (TQ0 L F) := by
  have mZ := fun a x h v w hp => tgZ_ok (E := E) hF a x h v w hp
  refine ToldT.or (told_t2 ⟨_, Tryz.func92, rfl⟩ _ _ mZ mZ ?_) <| ToldT.or (told_t2 ⟨_, Tryz.func99, rfl⟩ _ _ mZ mZ ?_) (toldZ2 hE hF)
  · intro a b hc w v u hv hu
    simp only [Bool.and_eq_true] at hc
    have hz := hasNz_ok hF hc.2
    refine (callsIn_wide.1 (ratio_calls w v u _ _ hv hu (bleZ (M := 20000) hE hc.1.1) (bleZ (M := 20000) hE hc.1.2) (by intro h; exact hz (by show (evZ E b).natAbs = 0; rw [h]; rfl)))).mono ?_
    rintro e w' ⟨v', rfl, hz, hb⟩
    exact ⟨v', rfl, (qc_ok _ v' w').2 hz, hb⟩
  · intro a b hc w v u hv hu
    simp only [Bool.and_eq_true] at hc
    refine (callsIn_wide.1 (zcmp_calls w v u _ _ hv hu (bleZ (M := 50000) hE hc.1) (bleZ (M := 50000) hE hc.2))).mono ?_
    rintro e w' ⟨rfl, hb⟩
    exact ⟨_, rfl, rfl, hb⟩

def envQ (p q : Rat) : Env := ⟨fun _ => 0, fun k => if k = 0 then p else q⟩
theorem envQ_ok {L : Nat} (hL : 0 < L) {p q : Rat} (hp : RatLe p L) (hq : RatLe q L) : EnvOK L (envQ p q) := ⟨hL, fun k => ⟨pow_pos' _, by
  show RatLe (if k = 0 then p else q) L
  split <;> assumption⟩⟩
theorem qc_leaf {w : World} {v : Value} {q : Rat} (h : QAt w v q) {k : Nat} (hz : E.q k = q) : PieceOK (GN E) (qc (.leaf k)) v w := (qc_ok _ v w).2 (by
  show QAt w v (E.q k)
  rw [hz]; exact h)
def fQ (l : List Fact) : List Fact := .neg (.un 31 l0) false :: .neg (.un 31 l1) false :: l
theorem factsQ {p q : Rat} {l : List Fact} (h : Facts (envQ p q) l) : Facts (envQ p q) (fQ l) := by
  intro f hf
  rcases List.mem_cons.1 hf with rfl | hf
  · exact decide_eq_false (by show ¬ ((p.den : Nat) : Int) < 0; omega)
  · rcases List.mem_cons.1 hf with rfl | hf
    · exact decide_eq_false (by show ¬ ((q.den : Nat) : Int) < 0; omega)
    · exact h f hf
theorem runQ2 {p q z : Rat} (hp : RatLe p 4700) (hq : RatLe q 4700) {w : World} {u v : Value} (hu : QAt w u p) (hv : QAt w v q) {l : List Fact} (hF : Facts (envQ p q) l) {n : Nat} {f : FuncId} {r : Tg}
    (hr : runF Tryz.prog clsN (TQ0 4700 (fQ l)) [3, 116] [] n f (.cons (qc l0) (.cons (qc l1) .nil)) = some (.cons (qc r) .nil)) (he : evQ (envQ p q) r = z) :
    CallsIn Fence.wide 0 Tryz.prog f #[u, v] w fun e w' => ∃ v', e = .returned v' ∧ QAt w' v' z ∧ Below w.heap.size w w' := by
  refine (runZ (toldQ0 (envQ_ok (by omega) hp hq) (factsQ hF)) hr (xs := #[u, v]) ⟨u, [v], rfl, qc_leaf hu rfl, v, [], rfl, qc_leaf hv rfl, rfl⟩).mono ?_
  rintro e w' ⟨v', rfl, hp, hB⟩
  refine ⟨v', rfl, ?_, hB⟩
  rw [← he]
  exact (qc_ok _ v' w').1 hp
theorem dens_ne (p q : Rat) : ((p.den : Int) * (q.den : Int)) ≠ 0 := by
  have h1 := p.den_nz
  have h2 := q.den_nz
  intro h
  rcases Int.mul_eq_zero.1 h with h | h <;> omega
theorem facts_one {E : Env} {f : Fact} (h : f.ok E) : Facts E [f] := by
  intro g hg
  rcases List.mem_cons.1 hg with rfl | hg
  · exact h
  · cases hg
theorem parts (p : Rat) : p = Rat.divInt p.num p.den := (Rat.num_divInt_den p).symm
theorem div_cast (x y : Int) : ((x : Rat) / (y : Rat)) = Rat.divInt x y := (Rat.divInt_eq_div x y).symm

/-- **'Plus'.** -/
theorem plusQ_calls (w : World) (u v : Value) (p q : Rat) (hu : QAt w u p) (hv : QAt w v q) (hp : RatLe p 4700) (hq : RatLe q 4700) :
    CallsIn Fence.wide 0 Tryz.prog 95 #[u, v] w fun e w' => ∃ v', e = .returned v' ∧ QAt w' v' (p + q) ∧ Below w.heap.size w w' := by
  refine runQ2 hp hq hu hv (l := [.nz (.bin 3 (.un 31 l0) (.un 31 l1))]) (facts_one (by show ((p.den : Int) * (q.den : Int)).natAbs ≠ 0; have := dens_ne p q; omega)) (n := 60) (r := .bin 40 (.bin 1 (.bin 3 (.un 30 l0) (.un 31 l1)) (.bin 3 (.un 30 l1) (.un 31 l0))) (.bin 3 (.un 31 l0) (.un 31 l1))) (by kernel_rfl) ?_
  show ((p.num * (q.den : Int) + q.num * (p.den : Int) : Int) : Rat) / (((p.den : Int) * (q.den : Int) : Int) : Rat) = p + q
  rw [div_cast]
  conv => rhs; rw [parts p, parts q]
  rw [Rat.divInt_add_divInt _ _ (by have := p.den_nz; omega) (by have := q.den_nz; omega)]
/-- **'Minus'.** -/
theorem minusQ_calls (w : World) (u v : Value) (p q : Rat) (hu : QAt w u p) (hv : QAt w v q) (hp : RatLe p 4700) (hq : RatLe q 4700) :
    CallsIn Fence.wide 0 Tryz.prog 87 #[u, v] w fun e w' => ∃ v', e = .returned v' ∧ QAt w' v' (p - q) ∧ Below w.heap.size w w' := by
  refine runQ2 hp hq hu hv (l := [.nz (.bin 3 (.un 31 l0) (.un 31 l1))]) (facts_one (by show ((p.den : Int) * (q.den : Int)).natAbs ≠ 0; have := dens_ne p q; omega)) (n := 60) (r := .bin 40 (.bin 2 (.bin 3 (.un 30 l0) (.un 31 l1)) (.bin 3 (.un 30 l1) (.un 31 l0))) (.bin 3 (.un 31 l0) (.un 31 l1))) (by kernel_rfl) ?_
  show ((p.num * (q.den : Int) - q.num * (p.den : Int) : Int) : Rat) / (((p.den : Int) * (q.den : Int) : Int) : Rat) = p - q
  rw [div_cast]
  conv => rhs; rw [parts p, parts q]
  rw [Rat.divInt_sub_divInt _ _ (by have := p.den_nz; omega) (by have := q.den_nz; omega)]
/-- **'Times'.** -/
theorem timesQ_calls (w : World) (u v : Value) (p q : Rat) (hu : QAt w u p) (hv : QAt w v q) (hp : RatLe p 4700) (hq : RatLe q 4700) :
    CallsIn Fence.wide 0 Tryz.prog 128 #[u, v] w fun e w' => ∃ v', e = .returned v' ∧ QAt w' v' (p * q) ∧ Below w.heap.size w w' := by
  refine runQ2 hp hq hu hv (l := [.nz (.bin 3 (.un 31 l0) (.un 31 l1))]) (facts_one (by show ((p.den : Int) * (q.den : Int)).natAbs ≠ 0; have := dens_ne p q; omega)) (n := 60) (r := .bin 40 (.bin 3 (.un 30 l0) (.un 30 l1)) (.bin 3 (.un 31 l0) (.un 31 l1))) (by kernel_rfl) ?_
  show ((p.num * q.num : Int) : Rat) / (((p.den : Int) * (q.den : Int) : Int) : Rat) = p * q
  rw [div_cast]
  conv => rhs; rw [parts p, parts q]
  rw [Rat.divInt_mul_divInt]
/-- **'Over'.** -/
theorem overQ_calls (w : World) (u v : Value) (p q : Rat) (hu : QAt w u p) (hv : QAt w v q) (hp : RatLe p 4700) (hq : RatLe q 4700) (hq0 : q.num ≠ 0) :
    CallsIn Fence.wide 0 Tryz.prog 29 #[u, v] w fun e w' => ∃ v', e = .returned v' ∧ QAt w' v' (p / q) ∧ Below w.heap.size w w' := by
  have hz : ((p.den : Int) * q.num) ≠ 0 := by
    have h1 := p.den_nz
    intro h
    rcases Int.mul_eq_zero.1 h with h | h <;> omega
  refine runQ2 hp hq hu hv (l := [.nz (.bin 3 (.un 31 l0) (.un 30 l1))]) (facts_one (by show ((p.den : Int) * q.num).natAbs ≠ 0; omega)) (n := 60) (r := .bin 40 (.bin 3 (.un 30 l0) (.un 31 l1)) (.bin 3 (.un 31 l0) (.un 30 l1))) (by kernel_rfl) ?_
  show ((p.num * (q.den : Int) : Int) : Rat) / (((p.den : Int) * q.num : Int) : Rat) = p / q
  rw [div_cast]
  conv => rhs; rw [parts p, parts q]
  rw [Rat.div_def, Rat.inv_divInt, Rat.divInt_mul_divInt]
/-- **'Compare'.** -/
theorem compareQ_calls (w : World) (u v : Value) (p q : Rat) (hu : QAt w u p) (hv : QAt w v q) (hp : RatLe p 4700) (hq : RatLe q 4700) :
    CallsIn Fence.wide 0 Tryz.prog 36 #[u, v] w fun e w' => e = .returned (.int .i64 (p.num * (q.den : Int) - q.num * (p.den : Int)).sign) ∧ Below w.heap.size w w' := by
  refine (runZ (toldQ0 (envQ_ok (by omega) hp hq) (factsQ (l := []) facts_nil)) (n := 60) (r := .tag (.un 109 (.bin 2 (.bin 3 (.un 30 l0) (.un 31 l1)) (.bin 3 (.un 30 l1) (.un 31 l0))))) (ts := .cons (qc l0) (.cons (qc l1) .nil)) (by kernel_rfl) (xs := #[u, v]) ⟨u, [v], rfl, qc_leaf hu rfl, v, [], rfl, qc_leaf hv rfl, rfl⟩).mono ?_
  rintro e w' ⟨v', rfl, hp, hB⟩
  have hp : v' = .int .i64 (p.num * (q.den : Int) - q.num * (p.den : Int)).sign := hp
  exact ⟨by rw [hp], hB⟩
/-- **'Sgn'.** -/
theorem sgnQ_calls (w : World) (u : Value) (p : Rat) (hu : QAt w u p) (hp : RatLe p 4700) :
    CallsIn Fence.wide 0 Tryz.prog 35 #[u] w fun e w' => e = .returned (.int .i64 p.num.sign) ∧ Below w.heap.size w w' := by
  refine (runZ (toldQ0 (envQ_ok (by omega) hp hp) (factsQ (l := []) facts_nil)) (n := 60) (r := .tag (.un 109 (.un 30 l0))) (ts := .cons (qc l0) .nil) (by kernel_rfl) (xs := #[u]) ⟨u, [], rfl, qc_leaf hu rfl, rfl⟩).mono ?_
  rintro e w' ⟨v', rfl, hp, hB⟩
  have hp : v' = .int .i64 p.num.sign := hp
  exact ⟨by rw [hp], hB⟩
end Go.Num
namespace Go.Num
open Go.Eng Go.RowKit Go.Proofs Go.Proofs.YtepakfjilnpodaaGreatDoor

theorem u64_of_int (n : Int) (h1 : -9223372036854775808 ≤ n) (h2 : n ≤ 9223372036854775807) (h : 0 ≤ n) : IntKind.u64.wrap n = (n.natAbs : Int) := by
  have e : IntKind.u64.wrap n = n % 18446744073709551616 := rfl
  rw [e]; omega
theorem u64_of_neg (n : Int) (h1 : -9223372036854775808 ≤ n) (h : n < 0) : IntKind.u64.wrap n = n + 18446744073709551616 := by
  have e : IntKind.u64.wrap n = n % 18446744073709551616 := rfl
  rw [e]; omega
theorem u64_neg (n : Int) (h1 : -9223372036854775808 ≤ n) (h : n < 0) : IntKind.u64.wrap (-(n + 18446744073709551616)) = (n.natAbs : Int) := by
  have e : IntKind.u64.wrap (-(n + 18446744073709551616)) = (-(n + 18446744073709551616)) % 18446744073709551616 := rfl
  rw [e]; omega

theorem ret_agg {fn : Func} {p : Tmp} {ty : TypeId} {R : Ending → World → Prop} {a : Act} {w : World} {cs : List Value} {n : Nat} (h : fn.results = #[.cell p ty]) (hd : a.defers = []) (g : Nat) (hp : a.tmps.getD p undef = .pointer (some ⟨g, 0, none⟩))
    (hl : LoadAll Tryz.prog ty n) (hn : cs.length = n) (hc : ∀ j v, cs[j]? = some v → World.cell? w ⟨g, j, none⟩ = some v) (hR : R (.returned (.agg cs.toArray)) w) : bodyPost Tryz.prog fn R .ret a w := by
  refine ⟨hd, .agg cs.toArray, ?_, hR⟩
  have := hl g cs w hn hc
  simp only [Instr.loadAt, Instr.sureAddr, Sem.run_bind, Sem.run_pure, Result.andThen_ok] at this
  have hp2 : a.tmps[p]?.getD undef = .pointer (some ⟨g, 0, none⟩) := by rw [← Array.getD_eq_getD_getElem?]; exact hp
  simp [results, h, hp2, asAddr, this]
theorem NatI.setElem {w : World} {v u : Value} {x g i : Nat} {e : TypeId} (h : NatI w v x) (hE : Elem w g e) (he : e ≠ 3) : NatI (w.setCell ⟨g, i, none⟩ u) v x := by
  obtain ⟨k, hk, hl⟩ := h
  refine ⟨k, hk, ?_⟩
  rcases hl with h | ⟨a, cap, rfl, h2, h3, h4, h5, h6⟩
  · exact .inl h
  · have hne : a.block ≠ g := h5.ne hE (Ne.symm he)
    refine .inr ⟨a, cap, rfl, h2, h3, h4, h5.setCell _ _, fun j hj => ?_⟩
    rw [World.cell?_setCell_other _ _ _ _ (by intro q; exact hne (by rw [← add_block a j]; exact (congrArg Addr.block q).symm))]
    exact h6 j hj
theorem l32 : LoadAll Tryz.prog 60 2 := loadAll_of (by kernel_rfl) (by kernel_rfl)

set_option maxRecDepth 100000 in
set_option maxHeartbeats 8000000 in
/-- **'Of' of the reference.** -/
theorem rOf_calls (w : World) (n : Int) (h1 : -9223372036854775808 ≤ n) (h2 : n ≤ 9223372036854775807) :
    CallsIn Fence.wide 0 Tryz.prog 31 #[.int .i64 n] w fun e w' => ∃ v', e = .returned v' ∧ ZAt w' v' n ∧ Below w.heap.size w w' := by
  obtain ⟨N, hN⟩ : ∃ N, n.natAbs = N := ⟨_, rfl⟩
  have hNs : N < 18446744073709551616 := by omega
  refine callsIn_of_wp Tryz.func31 rfl trivial ?_ rfl
  simp only [Tryz.ntmps31, List.size_toArray, List.length_cons, List.length_nil, Nat.reduceAdd, Nat.reduceSub, Array.replicate_succ, Array.replicate_zero, List.push_toArray, List.append_toArray, List.nil_append, List.cons_append]
  by_cases h0 : n < 0
  case' pos =>
    have e1 := u64_of_neg n h1 h0
    have e2 := u64_neg n h1 h0
    have HS : Hid (sgn true N = n) := Hid.intro (by unfold sgn; simp; omega)
    have hb : decide (n < 0) = true := decide_eq_true h0
  case' neg =>
    have e1 := u64_of_int n h1 h2 (by omega)
    have HS : Hid (sgn false N = n) := Hid.intro (by unfold sgn; simp; omega)
    have hb : decide (n < 0) = false := decide_eq_false h0
  all_goals
    first | rw [hN] at e2 | rw [hN] at e1
    gi_wp2
    obtain ⟨W1, hW1⟩ : ∃ W, W = w.alloc (.cells #[.bool false, .slice none 0 0] 60) := ⟨_, rfl⟩
    rw [← hW1]
    have HBW : Hid (Below w.heap.size w W1) := Hid.intro (by rw [hW1]; exact alloc_below _ _)
    have HA1 : Hid (ArrAt W1 w.heap.size 2 fun i => if i = 0 then .bool false else .slice none 0 0) := Hid.intro (by
      rw [hW1]
      refine ArrAt.new _ _ _ fun i hi => ?_
      match i, hi with
      | 0, _ => rfl
      | 1, _ => rfl)
    have HE1 : Hid (Elem W1 w.heap.size 60) := Hid.intro (by rw [hW1]; exact elem_new _ _ _)
    obtain ⟨g, hg⟩ : ∃ g, w.heap.size = g := ⟨_, rfl⟩
    have hgl : g < W1.heap.size := by rw [hW1, ← hg]; simp
    have hgw : w.heap.size ≤ g := by omega
    rw [hg] at HA1 HE1
    rw [hg]
    clear hg
    have HO4 : Hid (W1.ownsRow W1.heap.size 3 1 (.slice none 0 0) 0 (firstI N 0)) := World.ownsRow_nil _ _ _ _
    have HB4 : Hid (Below W1.heap.size W1 W1) := Below.refl _ W1
    have HN := Hid.intro hN
    clear hW1 hN e1
    try clear e2
    gi_loopw [3, 4] (fun uv v wr => ∃ j u : Nat, j ≤ 20 ∧ uv = .int .u64 (u : Int) ∧ Hid (N / B ^ j = u) ∧ u < 18446744073709551616 ∧ Hid (j = 0 ∨ B ^ (j - 1) ≤ N) ∧ Hid (wr.ownsRow W1.heap.size 3 1 v j (firstI N j)) ∧ Hid (Below W1.heap.size W1 wr)) (fun uv _ _ => (intOf uv).toNat)
    case atStart => exact ⟨0, N, by omega, rfl, Hid.intro (by simp), hNs, Hid.intro (.inl rfl), HO4.out, HB4.out⟩
    case round =>
      obtain ⟨j, u, hj, rfl, HU, hu, HJ, HO, HBr⟩ := hrel
      clear HO4 HB4
      by_cases hu0 : 0 < u
      · have hl : u % 1000000000 = limb N j := by rw [← HU.out]; rfl
        have HL := Hid.intro hl
        have hlt : u % 1000000000 < 1000000000 := Nat.mod_lt _ (by decide)
        have hdv : u / 1000000000 < u := Nat.div_lt_self hu0 (by decide)
        have HJ2 : Hid (B ^ j ≤ N) := Hid.intro (by
          apply Classical.byContradiction
          intro hno
          have := Nat.div_eq_of_lt (show N < B ^ j by omega)
          rw [HU.out] at this
          omega)
        have hj19 : j < 19 := by
          apply Classical.byContradiction
          intro hno
          have h1 : B ^ 3 ≤ B ^ j := pow_mono (by omega)
          have h2 : B ^ 3 = 1000000000000000000000000000 := by decide
          have := HJ2.out
          omega
        clear hl
        gi_wp2_with (gi_at_builtin; refine stop ?_)
        unfold Stop
        refine appendI_limb W1 wr rfl _ _ rfl u4 j N rfl HO _ _ rfl ?_ (by omega) HBr ?_
        · rw [← HL.out]; go_num
        · intro v2 w2 HO2 HB2
          gi_wp2
          refine ⟨⟨j + 1, u / 1000000000, by omega, rfl, ?_, by omega, Hid.intro (.inr HJ2.out), HO2, HB2⟩, by simp [intOf] <;> omega⟩
          rw [Nat.pow_succ, ← Nat.div_div_eq_div_mul, HU.out]
          rfl
      · have hu00 : u = 0 := by omega
        subst hu00
        have hlen : LenIs N j := ⟨by
          rcases Nat.lt_or_ge N (B ^ j) with h | h
          · exact h
          · have := Nat.div_pos h (pow_pos' j); rw [HU.out] at this; omega, HJ.out⟩
        have HM : Hid (NatI wr u4 N) := Hid.intro ⟨j, hlen, rowI_limbs HO.out (by omega)⟩
        clear hlen
        gi_wp2_with (gi_at_call 94; refine stop ?_)
        unfold Stop
        refine (int_calls wr _ u4 N HM.out).mono ?_
        rintro e w5 ⟨v5, rfl, ⟨m, rfl, hm⟩, hb5⟩
        have HB5 := Hid.intro (HBr.out.trans (hb5.mono HBr.out.size))
        have HM5 := Hid.intro hm
        obtain ⟨om, km, cm, rfl, _, _⟩ := natI_len hm
        have HA5 := HA1.out.below hgl HB5.out
        have y0 := (HA5 0 (by omega)).1
        have y1 := (HA5 1 (by omega)).1
        have z0 := (HA5 0 (by omega)).2
        have z1 := (HA5 1 (by omega)).2
        simp only [if_true, if_false, Nat.one_ne_zero] at y0 y1
        have HA6 := Hid.intro HA5
        have HE5 := Hid.intro (HE1.out.below HB5.out hgl)
        clear hm hb5 HA5
        gi_wp2
        have ha6 := (HA6.out.set (i := 0) (by omega) (.bool (decide (n < 0)))).set (i := 1) (by omega) (.slice om km cm)
        rw [HS.out]
        refine ret_agg (cs := [.bool (decide (n < 0)), .slice om km cm]) rfl rfl g rfl l32 rfl ?_ ?_
        · intro j v hj
          match j, hj with
          | 0, hj => cases hj; exact (ha6 0 (by omega)).1
          | 1, hj => cases hj; exact (ha6 1 (by omega)).1
        · refine ⟨_, rfl, ⟨_, rfl, ?_⟩, (HBW.out.trans (HB5.out.mono HBW.out.size)).setCell hgw _ |>.setCell hgw _⟩
          have := (HM5.out.setElem (i := 0) (u := .bool (decide (n < 0))) HE5.out (by decide)).setElem (i := 1) (u := .slice om km cm) (HE5.out.setCell _ _) (by decide)
          rw [HS.out] at this
          exact this

theorem rat_ofInt_num (n : Int) : (n : Rat).num = n := rfl
theorem rat_ofInt_den (n : Int) : (n : Rat).den = 1 := rfl

set_option maxRecDepth 100000 in
set_option maxHeartbeats 8000000 in
/-- **'Of' of the program.** -/
theorem ofN_calls (w : World) (n : Int) (h1 : -9223372036854775808 ≤ n) (h2 : n ≤ 9223372036854775807) :
    CallsIn Fence.wide 0 Tryz.prog 16 #[.int .i64 n] w fun e w' => ∃ v', e = .returned v' ∧ RatAt w' v' (n : Rat) ∧ Below w.heap.size w w' := by
  obtain ⟨N, hN⟩ : ∃ N, n.natAbs = N := ⟨_, rfl⟩
  have hNs : N < 18446744073709551616 := by omega
  refine callsIn_of_wp Tryz.func16 rfl trivial ?_ rfl
  simp only [Tryz.ntmps16, List.size_toArray, List.length_cons, List.length_nil, Nat.reduceAdd, Nat.reduceSub, Array.replicate_succ, Array.replicate_zero, List.push_toArray, List.append_toArray, List.nil_append, List.cons_append]
  by_cases h0 : n < 0
  case' pos =>
    have e1 := u64_of_neg n h1 h0
    have e2 := u64_neg n h1 h0
    have hb : decide (n < 0) = true := decide_eq_true h0
  case' neg =>
    have e1 := u64_of_int n h1 h2 (by omega)
    have hb : decide (n < 0) = false := decide_eq_false h0
  all_goals
    first | rw [hN] at e2 | rw [hN] at e1
    gi_wp2_with (gi_at_call 72; refine stop ?_)
    unfold Stop
    obtain ⟨W, hW⟩ : ∃ W, W = w.alloc (.cells #[.bool false, .slice none 0 0, .slice none 0 0] 27) := ⟨_, rfl⟩
    rw [← hW]
    have HK : Hid (Own3 w W) := by rw [hW]; exact own3_new _ _ _ _ _
    clear hW
    have HN := Hid.intro hN
    have HB := Hid.intro hb
    clear hN e1
    try clear e2
    refine (magOf_calls W N hNs).mono ?_
    rintro e w2 ⟨v7, rfl, ⟨hm, hf⟩, hB2⟩
    have HF2 : Hid (N = 0 ∨ v7.ownBlock ≠ some w.heap.size) := hf.ne HK.out.2.1 _
    have HK8 := Hid.intro (HK.out.step hB2)
    have HM7 := Hid.intro hm
    clear hm hB2 HK hf
    obtain ⟨x0, x1, x2, z0, z1, z2, y0, y1, y2⟩ := HK8.out.cells
    obtain ⟨o, k, c, rfl, _, _⟩ := mag_len HM7.out
    gi_wp2
    refine ret_rat3 rfl rfl w.heap.size rfl z0 z1 z2 ?_
    have hB := HK8.out.2.2
    refine ⟨_, rfl, ⟨.slice o k c, .slice none 0 0, ?_, ?_, ?_⟩, ((hB.setCell (Nat.le_refl _) _).setCell (Nat.le_refl _) _).setCell (Nat.le_refl _) _⟩
    · rw [rat_ofInt_num, HB.out]
    · rw [rat_ofInt_num, HN.out]; exact ((HM7.out.setCell' HF2.out _).setCell' HF2.out _).setCell' HF2.out _
    · rw [rat_ofInt_den, if_pos rfl]; exact magAt_nil _ _ _

/-- A decimal digit of a number. -/
def dgt (N p : Nat) : Nat := N / 10 ^ p % 10
theorem dgt_lt (N p : Nat) : dgt N p < 10 := Nat.mod_lt _ (by decide)
theorem pow9 (i : Nat) : B ^ i = 10 ^ (9 * i) := by
  rw [Nat.pow_mul]
  rfl
theorem dgt_limb {N i j : Nat} (hj : j < 9) : limb N i / 10 ^ j % 10 = dgt N (9 * i + j) := by
  unfold limb dgt
  obtain ⟨c, hc⟩ : ∃ c, 9 - j = c + 1 := ⟨9 - j - 1, by omega⟩
  have hB : B = 10 ^ j * 10 ^ (c + 1) := by
    rw [← Nat.pow_add, ← hc, show j + (9 - j) = 9 by omega]
    rfl
  rw [show N / B ^ i % B = N / B ^ i % (10 ^ j * 10 ^ (c + 1)) by rw [← hB], Nat.mod_mul_right_div_self, Nat.mod_mod_of_dvd _ (by rw [Nat.pow_succ]; exact Nat.dvd_mul_left _ _), pow9, Nat.div_div_eq_div_mul, ← Nat.pow_add]
def bytV (N p : Nat) : Value := .int .u8 ((48 + dgt N p : Nat) : Int)
def firstB (N k : Nat) : List Value := (List.range k).map (bytV N)
theorem firstB_len (n k : Nat) : (firstB n k).length = k := by simp [firstB]
theorem firstB_succ (n k : Nat) : firstB n (k + 1) = firstB n k ++ [bytV n k] := by simp [firstB, List.range_succ]

theorem t5_info : Tryz.prog.info? 5 = some Tryz.t5 := by kernel_rfl
theorem u107 : Tryz.prog.underlying 229 = some (.slice 5) := by kernel_rfl
theorem u5 : Tryz.prog.underlying 5 = some (.int .u8) := by kernel_rfl
theorem u9 : Tryz.prog.underlying 9 = some .string := by kernel_rfl
theorem t5_zero : Tryz.t5.zero = some (.int .u8 0) := by kernel_rfl
theorem t5_size : Tryz.t5.size = 1 := by kernel_rfl
theorem t5_bytes : Tryz.t5.bytes = 1 := by kernel_rfl
theorem byte_new (w : World) (i : Int) (t : TypeId) : ∀ k u, [Value.int .u8 i][k]? = some u → (w.alloc (.cells #[.int .u8 i] t)).cell? ((⟨w.heap.size, 0, none⟩ : Addr).add k) = some u := by
  intro k u h
  rw [Addr.add_lit, Nat.zero_add, World.cell?_alloc_new]
  match k, h with
  | 0, h => exact h
/-- A byte is put behind a row of the call's own. -/
theorem appendB {F : Fence} {n : Nat} (w wr : World) {ops : Array Oper} {rest : List Oper} {o : Oper} {a : Act} {Q : Exit → Act → World → Prop}
    (hg : o.guard = none) (s x : Operand) (hop : o.op = Op.call { callee := Callee.builtin Builtin.append, args := #[s, x], argTypes := #[229, 229] })
    (v : Value) (j : Nat) (xs : List Value) (hs : a.eval s = v) (HO : Hid (wr.ownsRow w.heap.size 5 1 v j xs)) (z : Int) (t : TypeId) (hx : a.eval x = .slice (some ⟨wr.heap.size, 0, none⟩) 1 1) (c : Int) (hz : z = c) (hj : j < 5000000000)
    (HB : Hid (Below w.heap.size w wr))
    (hK : ∀ v' w', Hid (w'.ownsRow w.heap.size 5 1 v' (j + 1) (xs ++ [.int .u8 c])) → Hid (Below w.heap.size w w') → wpListIn F n Tryz.prog ops Q rest (a.put o.dst v') w') :
    wpListIn F n Tryz.prog ops Q (o :: rest) a (wr.alloc (.cells #[.int .u8 z] t)) := by
  have hsz := HB.out.size
  refine wpListIn_append_own _ hg s x 229 hop w.heap.size 5 Tryz.t5 _ 1 1 u107 t5_info t5_zero t5_size t5_bytes rfl (by decide) v j xs hs (World.ownsRow.alloc HO.out _) ⟨wr.heap.size, 0, none⟩ 1 1 [.int .u8 z] hx rfl (byte_new _ _ _) (fun u hu => by simp at hu; subst hu; rfl) (by unfold maxLen; omega) (by omega) (by simp; omega) ?_
  intro v' w' h1 h2 _
  refine hK v' w' ?_ ?_
  · rw [← hz]; exact h1
  · refine (HB.out.alloc hsz _).grown h2 (by simp; omega) fun k hk => ?_
    exact own_base HO.out hk

/-- A conversion of a row of bytes. -/
theorem stop_conv {F : Fence} {n : Nat} {P : Program} {w : World} {ops : Array Oper} {rest : List Oper} {a : Act} {Q : Exit → Act → World → Prop} {dst : Option Tmp} {ty : TypeId} {ps : String} {af : Array Edge} {gd : Option (Nat × Bool)} {x : Operand}
    (h : Stop (wpListIn F n P ops Q ({ dst := dst, op := Op.convert 229 9 x, type := ty, pos := ps, after := af, guard := gd } :: rest) a w)) :
    wpListIn F n P ops Q ({ dst := dst, op := Op.convert 229 9 x, type := ty, pos := ps, after := af, guard := gd } :: rest) a w := h
theorem wpListIn_conv {F : Fence} {n : Nat} {P : Program} {w : World} {ops : Array Oper} {rest : List Oper} {o : Oper} {a : Act} {Q : Exit → Act → World → Prop}
    (hg : o.guard = none) (s d : TypeId) (x : Operand) (hop : o.op = Op.convert s d x) (v u : Value) (hx : a.eval x = v) (hr : (convert s d v).run P w = .ok u w)
    (h : wpListIn F n P ops Q rest (a.put o.dst u) w) : wpListIn F n P ops Q (o :: rest) a w := by
  refine wpListIn_plain hg fun K hK => ?_
  unfold Oper.wpIn
  refine ⟨by simp [Oper.about, hop], ?_⟩
  rw [Oper.semAt_plain F _ _ (by rw [hop]; intro c hc'; cases hc')]
  simp [execOp, hop, hx, hr, Result.andThen]
  exact hK _ _ h

/-- The bytes of an integer's text, backward. -/
def backT (N L p : Nat) : Int := if p < L then ((48 + dgt N p : Nat) : Int) else 45
theorem strOfNums_map (xs : List Int) (l : List UInt8) (h : xs.map (fun n => UInt8.ofNat n.toNat) = l) : strOfNums xs = ⟨l.toArray⟩ := by
  unfold strOfNums
  rw [h]
theorem dg_dgt (N p : Nat) : Lib.dg N p = UInt8.ofNat (48 + dgt N p) := rfl
theorem back_pos {z : Int} (h : 0 ≤ z) : strOfNums ((List.range (Lib.nDigits z.natAbs)).map fun p => backT z.natAbs (Lib.nDigits z.natAbs) (Lib.nDigits z.natAbs - 1 - p)) = textZ z := by
  refine strOfNums_map _ _ ?_
  unfold Lib.itoa
  rw [if_neg (by omega), show z.toNat = z.natAbs by omega, Lib.decDigits_eq, List.map_map]
  refine List.map_congr_left fun p hp => ?_
  have hp := List.mem_range.1 hp
  show UInt8.ofNat (backT _ _ _).toNat = _
  unfold backT
  rw [if_pos (by omega), Int.toNat_natCast]
  rfl
theorem back_neg {z : Int} (h : z < 0) : strOfNums ((List.range (Lib.nDigits z.natAbs + 1)).map fun p => backT z.natAbs (Lib.nDigits z.natAbs) (Lib.nDigits z.natAbs + 1 - 1 - p)) = textZ z := by
  refine strOfNums_map _ _ ?_
  unfold Lib.itoa
  rw [if_pos h, Lib.decDigits_eq, List.range_succ_eq_map, List.map_cons, List.map_cons, List.map_map, List.map_map]
  congr 1
  · show UInt8.ofNat (backT _ _ _).toNat = _
    unfold backT
    rw [if_neg (by omega)]
    rfl
  · refine List.map_congr_left fun p hp => ?_
    have hp := List.mem_range.1 hp
    show UInt8.ofNat (backT _ _ _).toNat = _
    unfold backT
    rw [if_pos (by omega), Int.toNat_natCast]
    show Lib.dg _ _ = Lib.dg _ _
    congr 1
    omega
theorem textZ_zero : textZ 0 = ⟨#[48]⟩ := by
  unfold textZ Lib.itoa
  rw [if_neg (by decide), Lib.decDigits, dif_pos (by decide)]
  rfl
theorem row_shrink {w : World} {base e g cap n N : Nat} (h : w.ownsRow base e 1 (.slice (some ⟨g, 0, none⟩) (n + 1) cap) (n + 1) (firstB N (n + 1))) : w.ownsRow base e 1 (.slice (some ⟨g, 0, none⟩) n cap) n (firstB N n) := by
  rcases h.2 with ⟨h, _⟩ | ⟨g', cap', cur, hv, h1, h2, h3, h4, h5, h6⟩
  · cases h
  · cases hv
    refine ⟨by rw [firstB_len]; omega, .inr ⟨g, cap, cur, rfl, h1, h2, by omega, h4, h5, ?_⟩⟩
    have : cur.toList.take (n * 1) = (cur.toList.take ((n + 1) * 1)).take n := by rw [List.take_take]; congr 1; omega
    rw [this, h6, firstB_succ, List.take_append_of_le_length (by rw [firstB_len]; omega), List.take_of_length_le (by rw [firstB_len]; omega)]

def lenV : Value → Nat
  | .slice _ n _ => n
  | _ => 0
set_option maxRecDepth 100000 in
set_option maxHeartbeats 8000000 in
/-- **'String' of the reference.** -/
theorem rString_calls (w : World) (v : Value) (z : Int) (h : ZAt w v z) (hz : z.natAbs < B ^ 100000) :
    CallsIn Fence.wide 0 Tryz.prog 155 #[v] w fun e w' => e = .returned (.string (textZ z)) ∧ Below w.heap.size w w' := by
  obtain ⟨m, rfl, k, hk, hl⟩ := h
  obtain ⟨N, hN⟩ : ∃ N, z.natAbs = N := ⟨_, rfl⟩
  rw [hN] at hk hl hz
  have hkL : k ≤ 100000 := hk.le hz
  obtain ⟨o, c, rfl, h1⟩ := hl.form
  have H1 := Hid.intro h1
  have HK := Hid.intro hk
  have HN := Hid.intro hN
  clear h1 hk hl hz hN
  obtain ⟨sg, hsg⟩ : ∃ sg, decide (z < 0) = sg := ⟨_, rfl⟩
  rw [hsg]
  refine callsIn_of_wp Tryz.func155 rfl trivial ?_ rfl
  simp only [Tryz.ntmps155, List.size_toArray, List.length_cons, List.length_nil, Nat.reduceAdd, Nat.reduceSub, Array.replicate_succ, Array.replicate_zero, List.push_toArray, List.append_toArray, List.nil_append, List.cons_append]
  by_cases hk0 : k = 0
  · subst hk0
    have hN0 : N = 0 := HK.out.zero
    have hz0 : z = 0 := by have := HN.out; omega
    subst hz0
    gi_wp2
    all_goals (first | go_returns | go_ret | go_end0)
    exact ⟨by rw [textZ_zero]; rfl, alloc_below _ _⟩
  · have hk0' : ((k : Int) == 0) = false := beq_false_of_ne (by omega)
    have HSG := Hid.intro hsg
    clear hsg
    obtain ⟨W1, hW1⟩ : ∃ W, W = w.alloc (.cells #[.bool sg, .slice o k c] 60) := ⟨_, rfl⟩
    have HBW : Hid (Below w.heap.size w W1) := Hid.intro (by rw [hW1]; exact alloc_below _ _)
    have HA1 : Hid (ArrAt W1 w.heap.size 2 fun i => if i = 0 then .bool sg else .slice o k c) := Hid.intro (by
      rw [hW1]
      refine ArrAt.new _ _ _ fun i hi => ?_
      match i, hi with
      | 0, _ => rfl
      | 1, _ => rfl)
    have HN0 : Hid (0 < N) := Hid.intro (by
      rcases Nat.eq_zero_or_pos N with h | h
      · subst h; exact absurd (HK.out.unique lenIs_zero) hk0
      · exact h)
    gi_wp2
    rw [← hW1]
    obtain ⟨g, hg⟩ : ∃ g, w.heap.size = g := ⟨_, rfl⟩
    have hgl : g < W1.heap.size := by rw [hW1, ← hg]; simp
    have hgw : w.heap.size ≤ g := by omega
    rw [hg] at HA1
    rw [hg]
    clear hg hW1
    have HO4 : Hid (W1.ownsRow W1.heap.size 5 1 (.slice none 0 0) (9 * 0) (firstB N (9 * 0))) := World.ownsRow_nil _ _ _ _
    have HB4 : Hid (Below W1.heap.size W1 W1) := Below.refl _ W1
    gi_loopw [3, 4, 5, 6] (fun bv iv _ _ wr => ∃ i : Nat, i ≤ k ∧ iv = .int .i64 (i : Int) ∧ Hid (wr.ownsRow W1.heap.size 5 1 bv (9 * i) (firstB N (9 * i))) ∧ Hid (Below W1.heap.size W1 wr)) (fun _ iv _ _ _ => k - (intOf iv).toNat)
    case atStart => exact ⟨0, by omega, rfl, HO4.out, HB4.out⟩
    case round =>
      obtain ⟨i, hi, rfl, HO, HBr⟩ := hrel
      clear HO4 HB4
      have HA5 := Hid.intro (HA1.out.below hgl HBr.out)
      have y0 := (HA5.out 0 (by omega)).1
      have y1 := (HA5.out 1 (by omega)).1
      simp only [if_true, if_false, Nat.one_ne_zero] at y0 y1
      by_cases hik : i < k
      · obtain ⟨a1, rfl, ha1, hc1⟩ := H1.out (by omega)
        have ha1' : a1.block < W1.heap.size := Nat.lt_of_lt_of_le ha1 HBW.out.size
        have p1 := (HBr.out.cell (p := a1.add i) (by rw [add_block]; exact ha1')).trans ((HBW.out.cell (p := a1.add i) (by rw [add_block]; exact ha1)).trans (hc1 i hik))
        obtain ⟨l, hl⟩ : ∃ l, limb N i = l := ⟨_, rfl⟩
        have hl9 : l < 1000000000 := by rw [← hl]; exact limb_lt N i
        rw [hl] at p1
        have HL := Hid.intro hl
        have hikd : decide ((i : Int) < (k : Int)) = true := decide_eq_true (by omega)
        have HO4 : Hid (wr.ownsRow W1.heap.size 5 1 u3 (9 * i + 0) (firstB N (9 * i + 0))) := HO
        clear hc1 hl HO
        gi_wp2
        gi_loopw [3, 5, 6] (fun bv xv jv wr => ∃ j x : Nat, j ≤ 9 ∧ xv = .int .i64 (x : Int) ∧ jv = .int .i64 (j : Int) ∧ x < 1000000000 ∧ Hid (l / 10 ^ j = x) ∧ Hid (wr.ownsRow W1.heap.size 5 1 bv (9 * i + j) (firstB N (9 * i + j))) ∧ Hid (Below W1.heap.size W1 wr)) (fun _ _ jv _ => 9 - (intOf jv).toNat)
        case atStart => exact ⟨0, l, by omega, rfl, rfl, hl9, Hid.intro (by simp), HO4.out, HBr.out⟩
        case round =>
          obtain ⟨j, x, hj, rfl, rfl, hx9, HX, HO, HB2⟩ := hrel
          clear HO4 HBr HA5 y0 y1 p1
          by_cases hj9 : j < 9
          · have hd : x % 10 = dgt N (9 * i + j) := by rw [← HX.out, ← HL.out]; exact dgt_limb hj9
            have HD := Hid.intro hd
            have hx10 : x % 10 < 10 := Nat.mod_lt _ (by decide)
            clear hd
            gi_wp2_with (gi_at_builtin; refine stop ?_)
            unfold Stop
            refine appendB W1 wr rfl _ _ rfl u3 (9 * i + j) (firstB N (9 * i + j)) rfl HO _ _ rfl ((48 + dgt N (9 * i + j) : Nat) : Int) ?_ (by omega) HB2 ?_
            · rw [← HD.out]; go_num
            · intro v2 w2 HO2 HB3
              gi_wp2
              refine ⟨⟨j + 1, x / 10, by omega, by go_num, by go_num, by omega, ?_, ?_, HB3⟩, by simp [intOf] <;> omega⟩
              · rw [Nat.pow_succ, ← Nat.div_div_eq_div_mul, HX.out]; rfl
              · have := HO2.out
                exact Hid.intro (by rw [show 9 * i + (j + 1) = 9 * i + j + 1 by omega, firstB_succ]; exact this)
          · have hj0 : j = 9 := by omega
            subst hj0
            gi_wp2
            refine ⟨⟨i + 1, by omega, by go_num, ?_, HB2⟩, by simp [intOf] <;> omega⟩
            exact Hid.intro (by rw [show 9 * (i + 1) = 9 * i + 9 by omega]; exact HO.out)
      · have hik0 : i = k := by omega
        subst hik0
        have hikd : decide ((i : Int) < (i : Int)) = false := decide_eq_false (by omega)
        have hform : ∃ g2 cap, u3 = .slice (some ⟨g2, 0, none⟩) (9 * i) cap ∧ 9 * i ≤ cap ∧ cap ≤ 9223372036854775807 ∧ W1.heap.size ≤ g2 := by
          rcases HO.out.2 with ⟨_, h⟩ | ⟨g2, cap, cur, h1, h2, h3, h4, h5, _⟩
          · omega
          · exact ⟨g2, cap, h1, h4, by unfold maxLen at h5; omega, h2⟩
        obtain ⟨g2, cap, rfl, hcap, hcm, hg2⟩ := hform
        have HNk : Hid (N < 10 ^ (9 * i)) := Hid.intro (by rw [← pow9]; exact HK.out.1)
        gi_wp2
        gi_loopw [3] (fun bv wr => ∃ L, 1 ≤ L ∧ L ≤ 9 * i ∧ bv = .slice (some ⟨g2, 0, none⟩) L cap ∧ Hid (wr.ownsRow W1.heap.size 5 1 bv L (firstB N L)) ∧ Hid (N < 10 ^ L) ∧ Hid (Below W1.heap.size W1 wr)) (fun bv _ => lenV bv)
        case atStart => exact ⟨9 * i, by omega, by omega, rfl, HO.out, HNk.out, HBr.out⟩
        case round =>
          obtain ⟨L, hL1, hL9, rfl, HO2, HNL, HB2⟩ := hrel
          clear HO HNk HBr HA5 y0 y1
          obtain ⟨m, rfl⟩ : ∃ m, L = m + 1 := ⟨L - 1, by omega⟩
          have p1 : wr.cell? ⟨g2, m, none⟩ = some (bytV N m) := by
            have := HO2.out.cells rfl m (bytV N m) (by simp [firstB])
            rw [Addr.add_lit, Nat.zero_add] at this
            exact this
          obtain ⟨d, hd⟩ : ∃ d, dgt N m = d := ⟨_, rfl⟩
          unfold bytV at p1
          rw [hd] at p1
          have HD := Hid.intro hd
          obtain ⟨cc, hcc⟩ : ∃ cc : Int, ((48 + d : Nat) : Int) = cc := ⟨_, rfl⟩
          rw [hcc] at p1
          have hm1 : m + 1 ≤ cap := by omega
          clear hd
          by_cases hd0 : d = 0
          · subst hd0
            have hcc : cc = 48 := by omega
            subst hcc
            have hm0 : 1 ≤ m := by
              rcases Nat.eq_zero_or_pos m with h | h
              · subst h
                have h1 := HNL.out
                have h2 := HD.out
                have h3 := HN0.out
                unfold dgt at h2
                simp at h1 h2
                omega
              · exact h
            have HNL2 : Hid (N < 10 ^ m) := Hid.intro (by
              have h1 := HNL.out
              have h2 := HD.out
              unfold dgt at h2
              rw [Nat.pow_succ] at h1
              have h3 : N / 10 ^ m < 10 := Nat.div_lt_of_lt_mul (by rw [Nat.mul_comm] at h1; rw [Nat.mul_comm]; exact h1)
              have h4 : N / 10 ^ m = 0 := by
                obtain ⟨D, hD⟩ : ∃ D, N / 10 ^ m = D := ⟨_, rfl⟩
                rw [hD] at h2 h3 ⊢
                omega
              rcases Nat.lt_or_ge N (10 ^ m) with h | h
              · exact h
              · have := Nat.div_pos h (Nat.pow_pos (by decide)); omega)
            have HO3 := Hid.intro (row_shrink HO2.out)
            clear HD HO2 HNL
            gi_wp2
            refine ⟨⟨m, by omega, by omega, rfl, HO3, HNL2, HB2⟩, by simp [lenV]⟩
          · have hcc0 : (cc == 48) = false := beq_false_of_ne (by omega)
            have HDN : Hid (Lib.nDigits N = m + 1) := Hid.intro (Lib.nDigits_unique m N (by
              have h2 := HD.out
              unfold dgt at h2
              rcases Nat.lt_or_ge N (10 ^ m) with h | h
              · rw [Nat.div_eq_of_lt h] at h2; omega
              · exact h) HNL.out)
            have HA5 := Hid.intro (HA1.out.below hgl HB2.out)
            have y0 := (HA5.out 0 (by omega)).1
            have y1 := (HA5.out 1 (by omega)).1
            simp only [if_true, if_false, Nat.one_ne_zero] at y0 y1
            clear HD HNL hcc hd0
            cases sg with
            | false =>
              have HT : Hid (strOfNums ((List.range (m + 1)).map fun p => backT N (m + 1) (m + 1 - 1 - p)) = textZ z) := Hid.intro (by
                have h := back_pos (z := z) (by have := of_decide_eq_false HSG.out; omega)
                rw [HN.out, HDN.out] at h
                exact h)
              have HA3 : Hid (ArrAt wr g2 (m + 1) fun p => .int .u8 (backT N (m + 1) p)) := Hid.intro (ArrAt.of_row HO2.out fun p hp => by
                simp only [firstB, List.getElem?_map, List.getElem?_range hp, Option.map_some, bytV, backT, hp, if_true])
              have HB3 := HB2
              clear HO2 HB2
              gi_wp2
              gi_loopw [7, 8, 9] (fun iv jv _ wr => ∃ a b : Nat, a + b + 1 = m + 1 ∧ a ≤ b + 1 ∧ iv = .int .i64 (a : Int) ∧ jv = .int .i64 (b : Int) ∧ Hid (ArrAt wr g2 (m + 1) fun p => .int .u8 (backT N (m + 1) (if p < a ∨ b < p then m + 1 - 1 - p else p))) ∧ Hid (Below W1.heap.size W1 wr)) (fun iv _ _ _ => m + 1 - (intOf iv).toNat)
              case atStart => exact ⟨0, m, by omega, by omega, rfl, by go_num, Hid.intro (ArrAt.congr HA3.out fun p hp => by (try dsimp only); rw [if_neg (by omega)]), HB3.out⟩
              case round =>
                obtain ⟨a, b, hab, hab1, rfl, rfl, HA, HB4⟩ := hrel
                clear HA3 HB3 HA5 y0 y1
                by_cases hlt : a < b
                · obtain ⟨b, rfl⟩ : ∃ b', b = b' + 1 := ⟨b - 1, by omega⟩
                  obtain ⟨x1, hx1⟩ : ∃ x, backT N (m + 1) a = x := ⟨_, rfl⟩
                  obtain ⟨x2, hx2⟩ : ∃ x, backT N (m + 1) (b + 1) = x := ⟨_, rfl⟩
                  have z1 : wr.cell? ⟨g2, a, none⟩ = some (.int .u8 x1) := (HA.out a (by omega)).1.trans (by (try dsimp only); rw [if_neg (by omega), hx1])
                  have z2 : wr.cell? ⟨g2, b + 1, none⟩ = some (.int .u8 x2) := (HA.out (b + 1) (by omega)).1.trans (by (try dsimp only); rw [if_neg (by omega), hx2])
                  have f1 := (HA.out a (by omega)).2
                  have f2 := (HA.out (b + 1) (by omega)).2
                  have HX1 := Hid.intro hx1
                  have HX2 := Hid.intro hx2
                  have hltd : decide ((a : Int) < ((b + 1 : Nat) : Int)) = true := decide_eq_true (by omega)
                  clear hx1 hx2
                  gi_wp2
                  refine ⟨⟨a + 1, b, by omega, by omega, by go_num, by go_num, ?_, Hid.intro ((HB4.out.setCell hg2 _).setCell hg2 _)⟩, by simp [intOf] <;> omega⟩
                  refine Hid.intro (ArrAt.congr ((HA.out.set (i := a) (by omega) (.int .u8 x2)).set (i := b + 1) (by omega) (.int .u8 x1)) fun p hp => ?_)
                  try dsimp only
                  by_cases e1 : p = b + 1
                  · rw [if_pos e1, if_pos (by omega), ← HX1.out]; congr 2; omega
                  · rw [if_neg e1]
                    by_cases e2 : p = a
                    · rw [if_pos e2, if_pos (by omega), ← HX2.out]; congr 2; omega
                    · rw [if_neg e2]
                      by_cases e3 : p < a ∨ b + 1 < p
                      · rw [if_pos e3, if_pos (by omega)]
                      · rw [if_neg e3, if_neg (by omega)]
                · have hltd : decide ((a : Int) < (b : Int)) = false := decide_eq_false (by omega)
                  have HA9 : Hid (ArrAt wr g2 (m + 1) fun p => .int .u8 (backT N (m + 1) (m + 1 - 1 - p))) := Hid.intro (ArrAt.congr HA.out fun p hp => by
                    try dsimp only
                    by_cases e3 : p < a ∨ b < p
                    · rw [if_pos e3]
                    · rw [if_neg e3]; congr 2; omega)
                  clear HA
                  gi_wp2_with (with_reducible refine stop_conv ?_)
                  unfold Stop
                  refine wpListIn_conv rfl _ _ _ rfl _ (.string (strOfNums ((List.range (m + 1)).map fun p => backT N (m + 1) (m + 1 - 1 - p)))) rfl (run_convert_bytes_arg wr 229 5 Go.Num.u107 Go.Num.u5 g2 0 (m + 1) cap _ (by simp) (fun p hp => by rw [Nat.zero_add, (HA9.out p hp).1]; simp [List.getD, hp]) 9 Go.Num.u9) ?_
                  rw [HT.out]
                  clear HA9 HT
                  gi_wp2
                  all_goals (first | go_returns | go_ret | go_end0)
                  exact ⟨rfl, HBW.out.trans (HB4.out.mono HBW.out.size)⟩
            | true =>
              gi_wp2_with (gi_at_builtin; refine stop ?_)
              unfold Stop
              refine appendB W1 wr rfl _ _ rfl (.slice (some ⟨g2, 0, none⟩) (m + 1) cap) (m + 1) (firstB N (m + 1)) rfl HO2 _ _ rfl 45 rfl (by omega) HB2 ?_
              intro v2 w3 HO3 HB3
              have hform : ∃ g3 cap3, v2 = .slice (some ⟨g3, 0, none⟩) (m + 1 + 1) cap3 ∧ W1.heap.size ≤ g3 := by
                rcases HO3.out.2 with ⟨_, h⟩ | ⟨g3, cap3, cur, h1, h2, h3, h4, h5, _⟩
                · omega
                · exact ⟨g3, cap3, h1, h2⟩
              obtain ⟨g3, cap3, rfl, hg3⟩ := hform
              have HT : Hid (strOfNums ((List.range (m + 1 + 1)).map fun p => backT N (m + 1) (m + 1 + 1 - 1 - p)) = textZ z) := Hid.intro (by
                have h := back_neg (z := z) (of_decide_eq_true HSG.out)
                rw [HN.out, HDN.out] at h
                exact h)
              have HA3 : Hid (ArrAt w3 g3 (m + 1 + 1) fun p => .int .u8 (backT N (m + 1) p)) := Hid.intro (ArrAt.of_row HO3.out fun p hp => by
                by_cases hp1 : p < m + 1
                · rw [List.getElem?_append_left (by rw [firstB_len]; exact hp1)]
                  simp only [firstB, List.getElem?_map, List.getElem?_range hp1, Option.map_some, bytV, backT, hp1, if_true]
                · rw [List.getElem?_append_right (by rw [firstB_len]; omega), firstB_len, show p - (m + 1) = 0 by omega]
                  simp only [backT, hp1, if_false]
                  rfl)
              clear HO2 HO3 HB2
              gi_wp2
              gi_loopw [7, 8, 9] (fun iv jv _ wr => ∃ a b : Nat, a + b + 1 = m + 1 + 1 ∧ a ≤ b + 1 ∧ iv = .int .i64 (a : Int) ∧ jv = .int .i64 (b : Int) ∧ Hid (ArrAt wr g3 (m + 1 + 1) fun p => .int .u8 (backT N (m + 1) (if p < a ∨ b < p then m + 1 + 1 - 1 - p else p))) ∧ Hid (Below W1.heap.size W1 wr)) (fun iv _ _ _ => m + 1 + 1 - (intOf iv).toNat)
              case atStart => exact ⟨0, m + 1, by omega, by omega, rfl, by go_num, Hid.intro (ArrAt.congr HA3.out fun p hp => by (try dsimp only); rw [if_neg (by omega)]), HB3.out⟩
              case round =>
                obtain ⟨a, b, hab, hab1, rfl, rfl, HA, HB4⟩ := hrel
                clear HA3 HB3 HA5 y0 y1
                by_cases hlt : a < b
                · obtain ⟨b, rfl⟩ : ∃ b', b = b' + 1 := ⟨b - 1, by omega⟩
                  obtain ⟨x1, hx1⟩ : ∃ x, backT N (m + 1) a = x := ⟨_, rfl⟩
                  obtain ⟨x2, hx2⟩ : ∃ x, backT N (m + 1) (b + 1) = x := ⟨_, rfl⟩
                  have z1 : wr.cell? ⟨g3, a, none⟩ = some (.int .u8 x1) := (HA.out a (by omega)).1.trans (by (try dsimp only); rw [if_neg (by omega), hx1])
                  have z2 : wr.cell? ⟨g3, b + 1, none⟩ = some (.int .u8 x2) := (HA.out (b + 1) (by omega)).1.trans (by (try dsimp only); rw [if_neg (by omega), hx2])
                  have f1 := (HA.out a (by omega)).2
                  have f2 := (HA.out (b + 1) (by omega)).2
                  have HX1 := Hid.intro hx1
                  have HX2 := Hid.intro hx2
                  have hltd : decide ((a : Int) < ((b + 1 : Nat) : Int)) = true := decide_eq_true (by omega)
                  clear hx1 hx2
                  gi_wp2
                  refine ⟨⟨a + 1, b, by omega, by omega, by go_num, by go_num, ?_, Hid.intro ((HB4.out.setCell hg3 _).setCell hg3 _)⟩, by simp [intOf] <;> omega⟩
                  refine Hid.intro (ArrAt.congr ((HA.out.set (i := a) (by omega) (.int .u8 x2)).set (i := b + 1) (by omega) (.int .u8 x1)) fun p hp => ?_)
                  try dsimp only
                  by_cases e1 : p = b + 1
                  · rw [if_pos e1, if_pos (by omega), ← HX1.out]; congr 2; omega
                  · rw [if_neg e1]
                    by_cases e2 : p = a
                    · rw [if_pos e2, if_pos (by omega), ← HX2.out]; congr 2; omega
                    · rw [if_neg e2]
                      by_cases e3 : p < a ∨ b + 1 < p
                      · rw [if_pos e3, if_pos (by omega)]
                      · rw [if_neg e3, if_neg (by omega)]
                · have hltd : decide ((a : Int) < (b : Int)) = false := decide_eq_false (by omega)
                  have HA9 : Hid (ArrAt wr g3 (m + 1 + 1) fun p => .int .u8 (backT N (m + 1) (m + 1 + 1 - 1 - p))) := Hid.intro (ArrAt.congr HA.out fun p hp => by
                    try dsimp only
                    by_cases e3 : p < a ∨ b < p
                    · rw [if_pos e3]
                    · rw [if_neg e3]; congr 2; omega)
                  clear HA
                  gi_wp2_with (with_reducible refine stop_conv ?_)
                  unfold Stop
                  refine wpListIn_conv rfl _ _ _ rfl _ (.string (strOfNums ((List.range (m + 1 + 1)).map fun p => backT N (m + 1) (m + 1 + 1 - 1 - p)))) rfl (run_convert_bytes_arg wr 229 5 Go.Num.u107 Go.Num.u5 g3 0 (m + 1 + 1) cap3 _ (by simp) (fun p hp => by rw [Nat.zero_add, (HA9.out p hp).1]; simp [List.getD, hp]) 9 Go.Num.u9) ?_
                  rw [HT.out]
                  clear HA9 HT
                  gi_wp2
                  all_goals (first | go_returns | go_ret | go_end0)
                  exact ⟨rfl, HBW.out.trans (HB4.out.mono HBW.out.size)⟩
end Go.Num
