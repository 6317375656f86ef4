/-
  'Make' of the program. Fractions made: Whole, Frac, Zero of the reference; Make of the program. More steps of the walk of a region that draw
  Conditions: see each statement.
-/
import Derived.Test.YtepakfjilnpodaaGreatDoorPAAQ
import Derived.Test.YtepakfjilnpodaaGreatDoorPAAM
import Derived.Lib.SmallJoins
namespace Go.Num
open Go.Eng Go.Shelf Go.RowKit Go.Sort Go.Proofs Go.Proofs.YtepakfjilnpodaaGreatDoor

def textN (n : Nat) : ByteArray := ⟨(Lib.decDigits n).toArray⟩
theorem textZ_pos {z : Int} (h : 0 ≤ z) : textZ z = textN z.natAbs := by
  unfold textZ textN Lib.itoa
  rw [if_neg (by omega), show z.toNat = z.natAbs by omega]
theorem ba_append (a b : List UInt8) : (⟨a.toArray⟩ : ByteArray) ++ ⟨b.toArray⟩ = ⟨(a ++ b).toArray⟩ := by
  refine ByteArray.ext ?_
  rw [ByteArray.data_append]
  simp
theorem textZ_neg {z : Int} (h : z < 0) : (⟨#[45]⟩ : ByteArray) ++ textN z.natAbs = textZ z := by
  unfold textZ textN Lib.itoa
  rw [if_pos h]
  exact ba_append [45] _
theorem textN_size {n : Nat} (h : n < B ^ 100000) : (textN n).size ≤ 900000 := by
  unfold textN
  rw [bytes_size, Lib.decDigits_length]
  exact nDigits_B h
theorem textZ_size {z : Int} (h : z.natAbs < B ^ 100000) : (textZ z).size ≤ 900001 := by
  by_cases h0 : z < 0
  · rw [← textZ_neg h0, ByteArray.size_append]
    have := textN_size h
    show 1 + _ ≤ _
    omega
  · rw [textZ_pos (by omega)]
    have := textN_size h
    omega
theorem textQ_one {q : Rat} (h : q.den = 1) : textQ q = textZ q.num := by unfold textQ; rw [if_pos h]
theorem textQ_more {q : Rat} (h : q.den ≠ 1) : textZ q.num ++ ⟨#[47]⟩ ++ textN q.den = textQ q := by
  unfold textQ textZ textN
  rw [if_neg h]
  have e1 := ba_append (Lib.itoa q.num) [47]
  have e2 := ba_append (Lib.itoa q.num ++ [47]) (Lib.decDigits q.den)
  rw [show (⟨#[47]⟩ : ByteArray) = ⟨[47].toArray⟩ from rfl, e1, e2, List.append_assoc]
  rfl

set_option maxRecDepth 100000 in
set_option maxHeartbeats 8000000 in
/-- **'Parts'.** -/
theorem parts_calls (w : World) (v : Value) (q : Rat) (h : RatAt w v q) (hq : RatLe q 100000) (htab : Pow10 w) :
    CallsIn Fence.wide 0 Tryz.prog 75 #[v] w fun e w' => e = .returned (.tuple #[.string (textZ q.num), .string (textN q.den)]) ∧ Below w.heap.size w w' := by
  have HR := Hid.intro h
  obtain ⟨vn, vd, rfl, hn, hd⟩ := h
  have HN := Hid.intro hn
  obtain ⟨sg, hsg⟩ : ∃ sg, decide (q.num < 0) = sg := ⟨_, rfl⟩
  have HSG := Hid.intro hsg
  obtain ⟨o1, k1, c1, rfl, _, _⟩ := mag_len hn
  obtain ⟨o2, k2, c2, rfl, _, _⟩ := mag_len hd
  rw [hsg] at HR
  rw [hsg]
  obtain ⟨W1, hW1⟩ : ∃ W, W = w.alloc (.cells #[.bool sg, .slice o1 k1 c1, .slice o2 k2 c2] 27) := ⟨_, rfl⟩
  have HX1 : Hid (Box3 W1 w.heap.size (.bool sg) (.slice o1 k1 c1) (.slice o2 k2 c2)) := Hid.intro (by rw [hW1]; exact box3_new _ _ _ _ _)
  have HB1 : Hid (Below w.heap.size w W1) := Hid.intro (by rw [hW1]; exact alloc_below _ _)
  have HP := Hid.intro hq
  have HTab := Hid.intro htab
  clear hn hd hsg hq htab
  refine callsIn_of_wp Tryz.func75 rfl trivial ?_ rfl
  simp only [Tryz.ntmps75, List.size_toArray, List.length_cons, List.length_nil, Nat.reduceAdd, Nat.reduceSub, Array.replicate_succ, Array.replicate_zero, List.push_toArray, List.append_toArray, List.nil_append, List.cons_append]
  gi_wp2_with (gi_at_call 141; refine stop ?_)
  unfold Stop
  rw [← hW1]
  obtain ⟨g, hg⟩ : ∃ g, w.heap.size = g := ⟨_, rfl⟩
  rw [hg] at HX1
  rw [hg]
  clear hW1
  refine (mString_calls W1 _ _ (HN.out.below HB1.out) HP.out.1 (HTab.out.below HB1.out)).mono ?_
  rintro e w2 ⟨rfl, hb2⟩
  have HX2 := Hid.intro (HX1.out.below hb2)
  have HB2 := Hid.intro (HB1.out.trans (hb2.mono HB1.out.size))
  have y0 := HX2.out.c0
  have y1 := HX2.out.c1
  have y2 := HX2.out.c2
  have HR2 := Hid.intro (HR.out.below HB2.out)
  obtain ⟨S, hS⟩ : ∃ S : ByteArray, (⟨(Lib.decDigits q.num.natAbs).toArray⟩ : ByteArray) = S := ⟨_, rfl⟩
  rw [hS]
  have HS := Hid.intro hS
  have hSsz : S.size ≤ 900000 := by rw [← hS]; exact textN_size HP.out.1
  clear hb2 HX1 HB1 hS
  cases sg with
  | true =>
    have HT : Hid ((⟨#[45]⟩ : ByteArray) ++ S = textZ q.num) := Hid.intro (by rw [← HS.out]; exact textZ_neg (of_decide_eq_true HSG.out))
    gi_wp2_with (gi_at_call 132; refine stop ?_)
    unfold Stop
    refine (bottom_calls w2 _ q HR2.out).mono ?_
    rintro e w3 ⟨v3, rfl, hm3, hb3⟩
    have HM3 := Hid.intro hm3
    have HB3 := Hid.intro (HB2.out.trans (hb3.mono HB2.out.size))
    clear hm3 hb3 HR2 HX2 HB2 y0 y1 y2
    gi_wp2_with (gi_at_call 141; refine stop ?_)
    unfold Stop
    refine (mString_calls w3 _ _ HM3.out HP.out.2 (HTab.out.below HB3.out)).mono ?_
    rintro e w4 ⟨rfl, hb4⟩
    have HB4 := Hid.intro (HB3.out.trans (hb4.mono HB3.out.size))
    rw [HT.out]
    clear hb4 HB3
    gi_wp2
    all_goals (first | go_returns | go_ret2 | go_ret | go_end0)
    exact ⟨rfl, HB4.out⟩
  | false =>
    have HT : Hid (S = textZ q.num) := Hid.intro (by rw [← HS.out]; exact (textZ_pos (by have := of_decide_eq_false HSG.out; omega)).symm)
    gi_wp2_with (gi_at_call 132; refine stop ?_)
    unfold Stop
    refine (bottom_calls w2 _ q HR2.out).mono ?_
    rintro e w3 ⟨v3, rfl, hm3, hb3⟩
    have HM3 := Hid.intro hm3
    have HB3 := Hid.intro (HB2.out.trans (hb3.mono HB2.out.size))
    clear hm3 hb3 HR2 HX2 HB2 y0 y1 y2
    gi_wp2_with (gi_at_call 141; refine stop ?_)
    unfold Stop
    refine (mString_calls w3 _ _ HM3.out HP.out.2 (HTab.out.below HB3.out)).mono ?_
    rintro e w4 ⟨rfl, hb4⟩
    have HB4 := Hid.intro (HB3.out.trans (hb4.mono HB3.out.size))
    rw [HT.out]
    clear hb4 HB3
    gi_wp2
    all_goals (first | go_returns | go_ret2 | go_ret | go_end0)
    exact ⟨rfl, HB4.out⟩

set_option maxRecDepth 100000 in
set_option maxHeartbeats 8000000 in
/-- **'String' of a fraction.** -/
theorem string_calls (w : World) (v : Value) (q : Rat) (h : RatAt w v q) (hq : RatLe q 100000) (htab : Pow10 w) :
    CallsIn Fence.wide 0 Tryz.prog 18 #[v] w fun e w' => e = .returned (.string (textQ q)) ∧ Below w.heap.size w w' := by
  have HR := Hid.intro h
  obtain ⟨vn, vd, rfl, hn, hd⟩ := h
  obtain ⟨sg, hsg⟩ : ∃ sg, decide (q.num < 0) = sg := ⟨_, rfl⟩
  obtain ⟨o1, k1, c1, rfl, _, _⟩ := mag_len hn
  obtain ⟨o2, k2, c2, rfl, hk2, _⟩ := mag_len hd
  have HK2 := Hid.intro hk2
  rw [hsg] at HR
  rw [hsg]
  obtain ⟨W1, hW1⟩ : ∃ W, W = w.alloc (.cells #[.bool sg, .slice o1 k1 c1, .slice o2 k2 c2] 27) := ⟨_, rfl⟩
  have HX1 : Hid (Box3 W1 w.heap.size (.bool sg) (.slice o1 k1 c1) (.slice o2 k2 c2)) := Hid.intro (by rw [hW1]; exact box3_new _ _ _ _ _)
  have HB1 : Hid (Below w.heap.size w W1) := Hid.intro (by rw [hW1]; exact alloc_below _ _)
  have HP := Hid.intro hq
  have HTab := Hid.intro htab
  clear hn hd hsg hq htab hk2
  refine callsIn_of_wp Tryz.func18 rfl trivial ?_ rfl
  simp only [Tryz.ntmps18, List.size_toArray, List.length_cons, List.length_nil, Nat.reduceAdd, Nat.reduceSub, Array.replicate_succ, Array.replicate_zero, List.push_toArray, List.append_toArray, List.nil_append, List.cons_append]
  gi_wp2_with (gi_at_call 75; refine stop ?_)
  unfold Stop
  rw [← hW1]
  obtain ⟨g, hg⟩ : ∃ g, w.heap.size = g := ⟨_, rfl⟩
  rw [hg] at HX1
  rw [hg]
  clear hW1
  refine (parts_calls W1 _ q (HR.out.below HB1.out) HP.out (HTab.out.below HB1.out)).mono ?_
  rintro e w2 ⟨rfl, hb2⟩
  have HX2 := Hid.intro (HX1.out.below hb2)
  have HB2 := Hid.intro (HB1.out.trans (hb2.mono HB1.out.size))
  have y0 := HX2.out.c0
  have y1 := HX2.out.c1
  have y2 := HX2.out.c2
  clear hb2 HX1 HB1
  obtain ⟨Z, hZ⟩ : ∃ Z, textZ q.num = Z := ⟨_, rfl⟩
  obtain ⟨D, hD⟩ : ∃ D, textN q.den = D := ⟨_, rfl⟩
  have hZsz : Z.size ≤ 900001 := by rw [← hZ]; exact textZ_size HP.out.1
  have hDsz : D.size ≤ 900000 := by rw [← hD]; exact textN_size HP.out.2
  have hZ47 : (Z ++ ⟨#[47]⟩ : ByteArray).size = Z.size + 1 := by rw [ByteArray.size_append]; rfl
  rw [hZ, hD]
  by_cases h1 : q.den = 1
  · have hk0 : k2 = 0 := HK2.out.2 (by rw [if_pos h1])
    subst hk0
    have HT := Hid.intro (textQ_one h1)
    rw [hZ] at HT
    clear hZ hD
    gi_wp2
    all_goals (first | go_returns | go_ret2 | go_ret | go_end0)
    exact ⟨by rw [HT.out]; rfl, HB2.out⟩
  · have hk0 : ((k2 : Int) == 0) = false := beq_false_of_ne (by
      intro h
      have := HK2.out.1 (by omega)
      rw [if_neg h1] at this
      exact q.den_nz this)
    have HT := Hid.intro (textQ_more h1)
    rw [hZ, hD] at HT
    clear hZ hD
    gi_wp2
    all_goals (first | go_returns | go_ret2 | go_ret | go_end0)
    exact ⟨by rw [← HT.out]; rfl, HB2.out⟩
end Go.Num
namespace Go.Eng
open Go.RowKit
section
variable {P : Program} {ops : Array Oper} {bs bars r : List Nat} {i : Nat} {a : CAct} {w : World} {Q : CAct → World → Prop} {o : Oper}
theorem OW.eqInt {t x2 : TypeId} {x y : Operand} {k' : IntKind} {p q : Int} {d : Option Tmp} {ty : TypeId} {ps : String} {af : Array Edge} (ho : ops[i]? = some { op := .binOp .eql t x y x2, dst := d, type := ty, pos := ps, after := af, guard := none }) (hb : bars.contains i = false)
    (hx : a.eval x = .int k' p) (hy : a.eval y = .int k' q) (h : OW P none ops bs bars Q r (a.put d (.bool (p == q))) w) : OW P none ops bs bars Q (i :: r) a w :=
  OW.read ho hb _ (fun w' _ => by
    have : (execOp a.eval { op := .binOp .eql t x y x2, dst := d, type := ty, pos := ps, after := af, guard := none }).run P w' = .ok (.value (.bool (p == q))) w' := by
      unfold execOp
      simp only [hx, hy]
      simp [eqGuard, binOp, Op.intCmp, Sem.run_pure]
    exact this) h
theorem OW.eqStr {t x2 : TypeId} {x y : Operand} {p : ByteArray} {d : Option Tmp} {ty : TypeId} {ps : String} {af : Array Edge} (ho : ops[i]? = some { op := .binOp .eql t x y x2, dst := d, type := ty, pos := ps, after := af, guard := none }) (hb : bars.contains i = false)
    (hx : a.eval x = .string p) (hy : a.eval y = .string p) (h : OW P none ops bs bars Q r (a.put d (.bool true)) w) : OW P none ops bs bars Q (i :: r) a w :=
  OW.read ho hb _ (fun w' _ => by
    have : (execOp a.eval { op := .binOp .eql t x y x2, dst := d, type := ty, pos := ps, after := af, guard := none }).run P w' = .ok (.value (.bool true)) w' := by
      unfold execOp
      simp only [hx, hy]
      simp [eqGuard, binOp, Op.stringOp, Sem.run_pure]
    exact this) h
theorem OW.addStr {t x2 : TypeId} {x y : Operand} {p q : ByteArray} {d : Option Tmp} {ty : TypeId} {ps : String} {af : Array Edge} (ho : ops[i]? = some { op := .binOp .add t x y x2, dst := d, type := ty, pos := ps, after := af, guard := none }) (hb : bars.contains i = false)
    (hx : a.eval x = .string p) (hy : a.eval y = .string q) (hs : p.size + q.size ≤ 9223372036854775807) (h : OW P none ops bs bars Q r (a.put d (.string (p ++ q))) w) : OW P none ops bs bars Q (i :: r) a w :=
  OW.read ho hb _ (fun w' _ => by
    have : (execOp a.eval { op := .binOp .add t x y x2, dst := d, type := ty, pos := ps, after := af, guard := none }).run P w' = .ok (.value (.string (p ++ q))) w' := by
      unfold execOp
      simp only [hx, hy]
      have : ¬ (((p.size + q.size : Nat) : Int) > IntKind.i64.max) := by
        rw [show IntKind.i64.max = 9223372036854775807 from rfl]; omega
      simp [eqGuard, binOp, Op.stringOp, Sem.run_pure]
      omega
    exact this) h
/-- A load of a struct that lies within another. -/
def LoadMid (P : Program) (t : TypeId) (n : Nat) : Prop := ∀ g off (cs : List Value) w, cs.length = n → (∀ j v, cs[j]? = some v → World.cell? w ⟨g, off + j, none⟩ = some v) → (Instr.loadAt t (.pointer (some ⟨g, off, none⟩))).run P w = .ok (.agg cs.toArray) w
theorem loadMid_of {P : Program} {t : TypeId} {n : Nat} (h : (match P.underlying t with | some (.struct _) => true | _ => false) = true) (hi : (P.info? t).map (·.size) = some n) : LoadMid P t n := by
  intro g off cs w hn hc
  cases hu : P.underlying t with
  | none => rw [hu] at h; cases h
  | some d =>
    rw [hu] at h
    cases d with
    | struct fs =>
      have hl := run_loadVar_mid (P := P) w g off t cs (.struct fs) hc hu rfl (by rw [hn]; exact hi)
      simp [Instr.loadAt, Instr.sureAddr, hl]
    | _ => cases h
theorem OW.loadMid {t : TypeId} {x : Operand} {g off n : Nat} {cs : List Value} {d : Option Tmp} {ty : TypeId} {ps : String} {af : Array Edge} (ho : ops[i]? = some { op := .load t x, dst := d, type := ty, pos := ps, after := af, guard := none }) (hb : bars.contains i = false)
    (hL : LoadMid P t n) (hn : cs.length = n) (h0 : 0 < n) (hc : ∀ j v, cs[j]? = some v → w.cell? ⟨g, off + j, none⟩ = some v) (hx : a.eval x = .pointer (some ⟨g, off, none⟩)) (h : OW P none ops bs bars Q r (a.put d (.agg cs.toArray)) w) : OW P none ops bs bars Q (i :: r) a w :=
  OW.read ho hb _ (fun w' hb' => by
    have hp : g < w.heap.size := by
      obtain ⟨v, hv⟩ : ∃ v, cs[0]? = some v := ⟨_, List.getElem?_eq_getElem (by omega)⟩
      exact World.block_lt_of_cell? _ _ (hc 0 v hv)
    simp [execOp, hx, hL g off cs w' hn (fun j v hj => (hb'.cell (p := ⟨g, off + j, none⟩) hp).trans (hc j v hj))]) h
end
end Go.Eng
namespace Go.Num
open Go.Eng Go.Shelf Go.RowKit Go.Sort Go.Proofs Go.Proofs.YtepakfjilnpodaaGreatDoor

theorem f34_0 : FieldAt Tryz.prog 62 0 0 := fieldAt_ok (by kernel_rfl)
theorem f34_1 : FieldAt Tryz.prog 62 1 2 := fieldAt_ok (by kernel_rfl)
theorem m32 : LoadMid Tryz.prog 60 2 := loadMid_of (by kernel_rfl) (by kernel_rfl)
theorem m34 : LoadAll Tryz.prog 62 4 := loadAll_of (by kernel_rfl) (by kernel_rfl)
/-- Four cells of a block. -/
def Box4 (w : World) (g : Nat) (x y z u : Value) : Prop := ∀ j v, [x, y, z, u][j]? = some v → w.cell? ⟨g, j, none⟩ = some v
theorem Box4.lt {w : World} {g : Nat} {x y z u : Value} (h : Box4 w g x y z u) : g < w.heap.size := World.block_lt_of_cell? _ _ (h 0 x rfl)
theorem Box4.below {w w' : World} {g : Nat} {x y z u : Value} (h : Box4 w g x y z u) (hb : Below w.heap.size w w') : Box4 w' g x y z u := fun j v hj => (hb.cell (p := ⟨g, j, none⟩) h.lt).trans (h j v hj)
theorem box4_new (w : World) (x y z u : Value) (t : TypeId) : Box4 (w.alloc (.cells #[x, y, z, u] t)) w.heap.size x y z u := fun j v hj => by
  rw [World.cell?_alloc_new, ← hj]
  simp
theorem Box4.lo {w : World} {g : Nat} {x y z u : Value} (h : Box4 w g x y z u) : ∀ j v, [x, y][j]? = some v → w.cell? ⟨g, 0 + j, none⟩ = some v := fun j v hj => by
  match j, hj with
  | 0, hj => exact h 0 v hj
  | 1, hj => exact h 1 v hj
  | n + 2, hj => simp at hj
theorem Box4.hi {w : World} {g : Nat} {x y z u : Value} (h : Box4 w g x y z u) : ∀ j v, [z, u][j]? = some v → w.cell? ⟨g, 2 + j, none⟩ = some v := fun j v hj => by
  match j, hj with
  | 0, hj => exact h 2 v hj
  | 1, hj => exact h 3 v hj
  | n + 2, hj => simp at hj
theorem QAt.parts {w : World} {v : Value} {q : Rat} (h : QAt w v q) : ∃ m1 m2, v = .agg #[.bool (decide (q.num < 0)), m1, .bool false, m2] ∧ ZAt w (.agg #[.bool (decide (q.num < 0)), m1]) q.num ∧ ZAt w (.agg #[.bool false, m2]) (q.den : Int) := by
  obtain ⟨m1, m2, e, h1, h2⟩ := h
  refine ⟨m1, m2, e, ⟨m1, rfl, h1⟩, ⟨m2, ?_, h2⟩⟩
  have : decide ((q.den : Int) < 0) = false := decide_eq_false (by omega)
  rw [this]
set_option maxRecDepth 100000 in
set_option maxHeartbeats 8000000 in
/-- **'Form'.** -/
theorem form_calls (w : World) (v : Value) (q : Rat) (h : QAt w v q) (hq : RatLe q 20000) :
    CallsIn Fence.wide 0 Tryz.prog 91 #[v] w fun e w' => e = .returned (.string (textQ q)) ∧ Below w.heap.size w w' := by
  obtain ⟨m1, m2, rfl, hn, hd⟩ := h.parts
  have HN := Hid.intro hn
  have HD := Hid.intro hd
  obtain ⟨sg, hsg⟩ : ∃ sg, decide (q.num < 0) = sg := ⟨_, rfl⟩
  rw [hsg] at HN
  rw [hsg]
  obtain ⟨W1, hW1⟩ : ∃ W, W = w.alloc (.cells #[.bool sg, m1, .bool false, m2] 62) := ⟨_, rfl⟩
  have HX : Hid (Box4 W1 w.heap.size (.bool sg) m1 (.bool false) m2) := Hid.intro (by rw [hW1]; exact box4_new _ _ _ _ _ _)
  have HBW : Hid (Below w.heap.size w W1) := Hid.intro (by rw [hW1]; exact alloc_below _ _)
  have HP := Hid.intro hq
  clear h hn hd hsg hq
  refine callsIn_of_wp Tryz.func91 rfl trivial ?_ rfl
  simp only [Tryz.ntmps91, List.size_toArray, List.length_cons, List.length_nil, Nat.reduceAdd, Nat.reduceSub, Array.replicate_succ, Array.replicate_zero, List.push_toArray, List.append_toArray, List.nil_append, List.cons_append]
  gi_wp2
  rw [← hW1]
  obtain ⟨g, hg⟩ : ∃ g, w.heap.size = g := ⟨_, rfl⟩
  rw [hg] at HX
  rw [hg]
  clear hW1
  refine wpIn_region_ow (ro := none) [2, 3] [0, 1, 2, 3, 4] [0, 1, 0, 7, 15] follows 19 rfl (by kernel_rfl) (by kernel_rfl) ?_
  replace HX := Hid.intro (HX.out.below (drew_below _))
  replace HBW := Hid.intro (HBW.out.trans ((drew_below W1).mono HBW.out.size))
  refine OW.fieldAddr rfl rfl f34_1 rfl ?_
  simp only [Go.Act.put, List.setIfInBounds_toArray, List.set_cons_succ, List.set_cons_zero]
  refine OW.loadMid rfl rfl m32 (cs := [.bool false, m2]) rfl (by decide) HX.out.hi rfl ?_
  simp only [Go.Act.put, List.setIfInBounds_toArray, List.set_cons_succ, List.set_cons_zero]
  refine OW.call rfl rfl Tryz.func31 rfl namesOK (args := [.int .i64 1]) rfl ?_
  refine (rOf_calls W1.drew 1 (by decide) (by decide)).mono ?_
  rintro e w2 ⟨v5, rfl, hz5, hB⟩
  refine ⟨v5, rfl, hB, ?_⟩
  simp only [Go.Act.put, List.setIfInBounds_toArray, List.set_cons_succ, List.set_cons_zero]
  replace HX := Hid.intro (HX.out.below hB)
  replace HBW := Hid.intro (HBW.out.trans (hB.mono HBW.out.size))
  have HZ5 := Hid.intro hz5
  clear hz5 hB
  refine OW.call rfl rfl Tryz.func99 rfl namesOK (args := [.agg #[.bool false, m2], v5]) rfl ?_
  refine (zcmp_calls w2 _ v5 (q.den : Int) 1 (HD.out.below HBW.out) HZ5.out (lt_lift 50000 HP.out.2 (by decide)) (lt_lift 50000 (show 1 < B ^ 1 by decide) (by decide))).mono ?_
  rintro e w3 ⟨rfl, hB⟩
  refine ⟨_, rfl, hB, ?_⟩
  simp only [Go.Act.put, List.setIfInBounds_toArray, List.set_cons_succ, List.set_cons_zero]
  replace HX := Hid.intro (HX.out.below hB)
  replace HBW := Hid.intro (HBW.out.trans (hB.mono HBW.out.size))
  clear hB HZ5
  refine OW.eqInt rfl rfl rfl rfl ?_
  simp only [Go.Act.put, List.setIfInBounds_toArray, List.set_cons_succ, List.set_cons_zero]
  refine OW.done ?_
  by_cases h1 : q.den = 1
  · have hc : (((q.den : Int) - 1).sign == 0) = true := by rw [h1]; rfl
    rw [hc]
    have y0 := HX.out 0 _ rfl
    have y1 := HX.out 1 _ rfl
    have HT := Hid.intro (textQ_one h1)
    clear h1 hc
    gi_wp2_with (gi_at_call 155; refine stop ?_)
    unfold Stop
    refine (rString_calls w3 _ q.num (HN.out.below HBW.out) (lt_lift 100000 HP.out.1 (by decide))).mono ?_
    rintro e w4 ⟨rfl, hB⟩
    have HB4 := Hid.intro (HBW.out.trans (hB.mono HBW.out.size))
    clear hB
    gi_wp2
    all_goals (first | go_returns | go_ret | go_end0)
    exact ⟨by rw [HT.out]; rfl, HB4.out⟩
  · have hc : (((q.den : Int) - 1).sign == 0) = false := beq_false_of_ne (by
      intro h
      have := Int.sign_eq_zero_iff_zero.1 h
      omega)
    rw [hc]
    have HT := Hid.intro (textQ_more h1)
    have hsz1 := textZ_size (z := q.num) (lt_lift 100000 HP.out.1 (by decide))
    have hsz2 := textN_size (n := q.den) (lt_lift 100000 HP.out.2 (by decide))
    gi_wp2
    refine wpIn_region_ow (ro := none) [2, 6] [0, 1, 4, 5, 2, 3, 6, 7, 8] [0, 1, 3, 7, 0, 16, 55, 127, 255] follows 19 rfl (by kernel_rfl) (by kernel_rfl) ?_
    replace HX := Hid.intro (HX.out.below (drew_below _))
    replace HBW := Hid.intro (HBW.out.trans ((drew_below w3).mono HBW.out.size))
    refine OW.fieldAddr rfl rfl f34_0 rfl ?_
    simp only [Go.Act.put, List.setIfInBounds_toArray, List.set_cons_succ, List.set_cons_zero]
    refine OW.loadMid rfl rfl m32 (cs := [.bool sg, m1]) rfl (by decide) HX.out.lo rfl ?_
    simp only [Go.Act.put, List.setIfInBounds_toArray, List.set_cons_succ, List.set_cons_zero]
    refine OW.fieldAddr rfl rfl f34_1 rfl ?_
    simp only [Go.Act.put, List.setIfInBounds_toArray, List.set_cons_succ, List.set_cons_zero]
    refine OW.loadMid rfl rfl m32 (cs := [.bool false, m2]) rfl (by decide) HX.out.hi rfl ?_
    simp only [Go.Act.put, List.setIfInBounds_toArray, List.set_cons_succ, List.set_cons_zero]
    refine OW.call rfl rfl Tryz.func155 rfl namesOK (args := [.agg #[.bool sg, m1]]) rfl ?_
    refine (rString_calls w3.drew _ q.num (HN.out.below HBW.out) (lt_lift 100000 HP.out.1 (by decide))).mono ?_
    rintro e w4 ⟨rfl, hB⟩
    refine ⟨_, rfl, hB, ?_⟩
    simp only [Go.Act.put, List.setIfInBounds_toArray, List.set_cons_succ, List.set_cons_zero]
    replace HBW := Hid.intro (HBW.out.trans (hB.mono HBW.out.size))
    clear hB
    refine OW.addStr rfl rfl rfl rfl (by show _ + 1 ≤ _; omega) ?_
    simp only [Go.Act.put, List.setIfInBounds_toArray, List.set_cons_succ, List.set_cons_zero]
    refine OW.call rfl rfl Tryz.func155 rfl namesOK (args := [.agg #[.bool false, m2]]) rfl ?_
    refine (rString_calls w4 _ (q.den : Int) (HD.out.below HBW.out) (lt_lift 100000 HP.out.2 (by decide))).mono ?_
    rintro e w5 ⟨rfl, hB⟩
    refine ⟨_, rfl, hB, ?_⟩
    simp only [Go.Act.put, List.setIfInBounds_toArray, List.set_cons_succ, List.set_cons_zero]
    replace HBW := Hid.intro (HBW.out.trans (hB.mono HBW.out.size))
    clear hB
    rw [textZ_pos (z := (q.den : Int)) (by omega), Int.natAbs_natCast]
    refine OW.addStr rfl rfl rfl rfl (by rw [ByteArray.size_append]; show _ + 1 + _ ≤ _; omega) ?_
    simp only [Go.Act.put, List.setIfInBounds_toArray, List.set_cons_succ, List.set_cons_zero]
    refine OW.assign rfl rfl _ rfl ?_
    simp only [Go.Act.put, List.setIfInBounds_toArray, List.set_cons_succ, List.set_cons_zero]
    refine OW.done ?_
    rw [HT.out]
    gi_wp2
    all_goals (first | go_returns | go_ret | go_end0)
    exact ⟨rfl, HBW.out⟩

theorem m25 : LoadAll Tryz.prog 27 3 := l25
set_option maxRecDepth 100000 in
set_option maxHeartbeats 8000000 in
/-- **'is'**: one number, two forms. -/
theorem is_calls (w : World) (u v : Value) (q : Rat) (hu : RatAt w u q) (hv : QAt w v q) (hq : RatLe q 20000) (htab : Pow10 w) :
    CallsIn Fence.wide 0 Tryz.prog 28 #[u, v] w fun e w' => e = .returned (.bool true) ∧ Below w.heap.size w w' := by
  have HU := Hid.intro hu
  have HV := Hid.intro hv
  obtain ⟨vn, vd, rfl, _, _⟩ := hu
  obtain ⟨m1, m2, rfl, _, _⟩ := hv
  obtain ⟨sg, hsg⟩ : ∃ sg, decide (q.num < 0) = sg := ⟨_, rfl⟩
  rw [hsg] at HU HV
  rw [hsg]
  obtain ⟨W0, hW0⟩ : ∃ W, W = w.alloc (.cells #[.bool sg, vn, vd] 27) := ⟨_, rfl⟩
  have h0s : W0.heap.size = w.heap.size + 1 := by rw [hW0]; simp
  obtain ⟨W1, hW1⟩ : ∃ W, W = W0.alloc (.cells #[.bool sg, m1, .bool false, m2] 62) := ⟨_, rfl⟩
  have HX : Hid (Box3 W1 w.heap.size (.bool sg) vn vd) := Hid.intro (by rw [hW1]; exact Box3.below (by rw [hW0]; exact box3_new _ _ _ _ _) (alloc_below _ _))
  have HY : Hid (Box4 W1 (w.heap.size + 1) (.bool sg) m1 (.bool false) m2) := Hid.intro (by rw [hW1, ← h0s]; exact box4_new _ _ _ _ _ _)
  have HBW : Hid (Below w.heap.size w W1) := Hid.intro (by rw [hW1, hW0]; exact (alloc_below _ _).alloc (by simp) _)
  have HP := Hid.intro hq
  have HTab := Hid.intro htab
  clear hsg hq htab
  refine callsIn_of_wp Tryz.func28 rfl trivial ?_ rfl
  simp only [Tryz.ntmps28, List.size_toArray, List.length_cons, List.length_nil, Nat.reduceAdd, Nat.reduceSub, Array.replicate_succ, Array.replicate_zero, List.push_toArray, List.append_toArray, List.nil_append, List.cons_append]
  gi_wp2
  rw [← hW0, ← hW1]
  obtain ⟨g, hg⟩ : ∃ g, w.heap.size = g := ⟨_, rfl⟩
  rw [hg] at HX HY
  rw [hg]
  clear hW0 hW1 h0s
  refine wpIn_region_ow (ro := none) [1, 3] [0, 2, 1, 3, 4, 5] [0, 1, 0, 7, 15, 31] follows 10 rfl (by kernel_rfl) (by kernel_rfl) ?_
  replace HX := Hid.intro (HX.out.below (drew_below _))
  replace HY := Hid.intro (HY.out.below (drew_below _))
  replace HBW := Hid.intro (HBW.out.trans ((drew_below W1).mono HBW.out.size))
  refine OW.loadAll rfl rfl m25 (cs := [.bool sg, vn, vd]) rfl (by decide) HX.out rfl ?_
  simp only [Go.Act.put, List.setIfInBounds_toArray, List.set_cons_succ, List.set_cons_zero]
  refine OW.loadAll rfl rfl m34 (cs := [.bool sg, m1, .bool false, m2]) rfl (by decide) HY.out rfl ?_
  simp only [Go.Act.put, List.setIfInBounds_toArray, List.set_cons_succ, List.set_cons_zero]
  refine OW.call rfl rfl Tryz.func18 rfl namesOK (args := [.agg #[.bool sg, vn, vd]]) rfl ?_
  refine (string_calls W1.drew _ q (HU.out.below HBW.out) (HP.out.mono (by decide)) (HTab.out.below HBW.out)).mono ?_
  rintro e w2 ⟨rfl, hB⟩
  refine ⟨_, rfl, hB, ?_⟩
  simp only [Go.Act.put, List.setIfInBounds_toArray, List.set_cons_succ, List.set_cons_zero]
  replace HBW := Hid.intro (HBW.out.trans (hB.mono HBW.out.size))
  clear hB
  refine OW.call rfl rfl Tryz.func91 rfl namesOK (args := [.agg #[.bool sg, m1, .bool false, m2]]) rfl ?_
  refine (form_calls w2 _ q (HV.out.below HBW.out) HP.out).mono ?_
  rintro e w3 ⟨rfl, hB⟩
  refine ⟨_, rfl, hB, ?_⟩
  simp only [Go.Act.put, List.setIfInBounds_toArray, List.set_cons_succ, List.set_cons_zero]
  replace HBW := Hid.intro (HBW.out.trans (hB.mono HBW.out.size))
  clear hB
  refine OW.eqStr rfl rfl rfl rfl ?_
  simp only [Go.Act.put, List.setIfInBounds_toArray, List.set_cons_succ, List.set_cons_zero]
  refine OW.assign rfl rfl _ rfl ?_
  simp only [Go.Act.put, List.setIfInBounds_toArray, List.set_cons_succ, List.set_cons_zero]
  refine OW.done ?_
  gi_wp2
  all_goals (first | go_returns | go_ret | go_end0)
  exact ⟨rfl, HBW.out⟩

theorem l34 : LoadAll Tryz.prog 62 4 := m34
theorem NatI.oneNew {w : World} {v u : Value} {x g i : Nat} {e : TypeId} (h : NatI w v x) (hE : Elem w g e) (he : e ≠ 3) : NatI (w.setCell ⟨g, i, none⟩ u) v x := h.setElem hE he
/-- What an integer of the machine fits into. -/
theorem int_small {a : Int} (h1 : -9223372036854775808 ≤ a) (h2 : a ≤ 9223372036854775807) : a.natAbs < B ^ 3 := by
  have : B ^ 3 = 1000000000000000000000000000 := by decide
  omega
theorem ratLe_rat {a b : Int} (ha : a.natAbs < B ^ 3) (hb : b.natAbs < B ^ 3) : RatLe ((a : Rat) / (b : Rat)) 6 := ratLe_div (ratLe_int ha (by decide)) (ratLe_int hb (by decide))

set_option maxRecDepth 100000 in
set_option maxHeartbeats 8000000 in
/-- **'Frac'.** -/
theorem frac_calls (w : World) (a b : Int) (ha1 : -9223372036854775808 ≤ a) (ha2 : a ≤ 9223372036854775807) (hb1 : -9223372036854775808 ≤ b) (hb2 : b ≤ 9223372036854775807) (hb0 : b ≠ 0) :
    CallsIn Fence.wide 0 Tryz.prog 39 #[.int .i64 a, .int .i64 b] w fun e w' => ∃ v', e = .returned v' ∧ QAt w' v' ((a : Rat) / (b : Rat)) ∧ Below w.heap.size w w' := by
  refine callsIn_of_wp Tryz.func39 rfl trivial ?_ rfl
  simp only [Tryz.ntmps39, List.size_toArray, List.length_cons, List.length_nil, Nat.reduceAdd, Nat.reduceSub, Array.replicate_succ, Array.replicate_zero, List.push_toArray, List.append_toArray, List.nil_append, List.cons_append]
  gi_wp2_with (gi_at_call 31; refine stop ?_)
  unfold Stop
  obtain ⟨W1, hW1⟩ : ∃ W, W = w.alloc (.cells #[.bool false, .slice none 0 0, .bool false, .slice none 0 0] 62) := ⟨_, rfl⟩
  rw [← hW1]
  have HBW : Hid (Below w.heap.size w W1) := Hid.intro (by rw [hW1]; exact alloc_below _ _)
  have HA : Hid (ArrAt W1 w.heap.size 4 fun i => [.bool false, .slice none 0 0, .bool false, .slice none 0 0].getD i (.bool false)) := Hid.intro (by
    rw [hW1]
    refine ArrAt.new _ _ _ fun i hi => ?_
    match i, hi with
    | 0, _ => rfl
    | 1, _ => rfl
    | 2, _ => rfl
    | 3, _ => rfl)
  have HE : Hid (Elem W1 w.heap.size 62) := Hid.intro (by rw [hW1]; exact elem_new _ _ _)
  obtain ⟨g, hg⟩ : ∃ g, w.heap.size = g := ⟨_, rfl⟩
  have hgl : g < W1.heap.size := by rw [hW1, ← hg]; simp
  have hgw : w.heap.size ≤ g := by omega
  rw [hg] at HA HE
  rw [hg]
  clear hg hW1
  refine (rOf_calls W1 a ha1 ha2).mono ?_
  rintro e w2 ⟨v2, rfl, hz2, hB⟩
  replace HA := Hid.intro (HA.out.below hgl hB)
  replace HE := Hid.intro (HE.out.below hB hgl)
  replace HBW := Hid.intro (HBW.out.trans (hB.mono HBW.out.size))
  replace hgl := Nat.lt_of_lt_of_le hgl hB.size
  have HZ2 := Hid.intro hz2
  clear hz2 hB
  gi_wp2_with (gi_at_call 31; refine stop ?_)
  unfold Stop
  refine (rOf_calls w2 b hb1 hb2).mono ?_
  rintro e w3 ⟨v3, rfl, hz3, hB⟩
  replace HA := Hid.intro (HA.out.below hgl hB)
  replace HE := Hid.intro (HE.out.below hB hgl)
  replace HBW := Hid.intro (HBW.out.trans (hB.mono HBW.out.size))
  replace hgl := Nat.lt_of_lt_of_le hgl hB.size
  replace HZ2 := Hid.intro (HZ2.out.below hB)
  have HZ3 := Hid.intro hz3
  clear hz3 hB
  gi_wp2_with (gi_at_call 92; refine stop ?_)
  unfold Stop
  refine (ratio_calls w3 v2 v3 a b HZ2.out HZ3.out (lt_lift 20000 (int_small ha1 ha2) (by decide)) (lt_lift 20000 (int_small hb1 hb2) (by decide)) hb0).mono ?_
  rintro e w4 ⟨v4, rfl, ⟨m1, m2, rfl, h1, h2⟩, hB⟩
  replace HA := Hid.intro (HA.out.below hgl hB)
  replace HE := Hid.intro (HE.out.below hB hgl)
  replace HBW := Hid.intro (HBW.out.trans (hB.mono HBW.out.size))
  obtain ⟨o1, k1, c1, rfl, _, _⟩ := natI_len h1
  obtain ⟨o2, k2, c2, rfl, _, _⟩ := natI_len h2
  have H1 := Hid.intro h1
  have H2 := Hid.intro h2
  have y0 := (HA.out 0 (by omega)).1
  have y1 := (HA.out 1 (by omega)).1
  have y2 := (HA.out 2 (by omega)).1
  have y3 := (HA.out 3 (by omega)).1
  have z0 := (HA.out 0 (by omega)).2
  have z1 := (HA.out 1 (by omega)).2
  have z2 := (HA.out 2 (by omega)).2
  have z3 := (HA.out 3 (by omega)).2
  simp only [List.getD_cons_zero, List.getD_cons_succ] at y0 y1 y2 y3
  clear h1 h2 hB HZ2 HZ3
  obtain ⟨sg, hsg⟩ : ∃ sg, decide (((a : Rat) / (b : Rat)).num < 0) = sg := ⟨_, rfl⟩
  rw [hsg]
  gi_wp2
  have ha6 := (((HA.out.set (i := 0) (by omega) (.bool sg)).set (i := 1) (by omega) (.slice o1 k1 c1)).set (i := 2) (by omega) (.bool false)).set (i := 3) (by omega) (.slice o2 k2 c2)
  refine ret_agg (cs := [.bool sg, .slice o1 k1 c1, .bool false, .slice o2 k2 c2]) rfl rfl g rfl l34 rfl ?_ ?_
  · intro j v hj
    match j, hj with
    | 0, hj => cases hj; exact (ha6 0 (by omega)).1
    | 1, hj => cases hj; exact (ha6 1 (by omega)).1
    | 2, hj => cases hj; exact (ha6 2 (by omega)).1
    | 3, hj => cases hj; exact (ha6 3 (by omega)).1
  · have n : ∀ {v : Value} {x : Nat}, NatI w4 v x → NatI ((((w4.setCell ⟨g, 0, none⟩ (.bool sg)).setCell ⟨g, 1, none⟩ (.slice o1 k1 c1)).setCell ⟨g, 2, none⟩ (.bool false)).setCell ⟨g, 3, none⟩ (.slice o2 k2 c2)) v x := fun h =>
      (((h.setElem HE.out (by decide)).setElem (HE.out.setCell _ _) (by decide)).setElem ((HE.out.setCell _ _).setCell _ _) (by decide)).setElem (((HE.out.setCell _ _).setCell _ _).setCell _ _) (by decide)
    refine ⟨_, rfl, ⟨_, _, by rw [hsg], n H1.out, n H2.out⟩, (((HBW.out.setCell hgw _).setCell hgw _).setCell hgw _).setCell hgw _⟩

/-! ### Whole, Zero -/
def envW (z : Int) : Env := ⟨fun k => if k = 7 then 1 else z, fun _ => 0⟩
def tW : TTab := fun f ts =>
  bif Nat.beq f 31 then
    match ts with
    | .cons (.val (.sc (.int .i64 1))) .nil => some (.cons (zs false (.leaf 7)) .nil)
    | _ => none
  else none
theorem told_W (z : Int) : ToldT Tryz.prog (GN (envW z)) tW := by
  intro f ts rs q
  unfold tW at q
  cases hf : Nat.beq f 31 with
  | false => rw [hf] at q; cases q
  | true =>
    rw [hf] at q
    have hf := (beq_iff _ _).1 hf
    subst hf
    refine ⟨⟨_, Tryz.func31, rfl⟩, fun w xs hx => ?_⟩
    simp only [cond_true] at q
    split at q
    · cases q
      obtain ⟨v, r, e, h1, h4⟩ := hx
      have h4 : r = [] := h4
      subst h4
      have e' : xs = #[v] := Array.toList_inj.1 (by simpa using e)
      subst e'
      have h1 : some (Value.int .i64 1) = some v := h1
      cases h1
      refine (callsIn_wide.1 (rOf_calls w 1 (by decide) (by decide))).mono ?_
      rintro e w' ⟨v', rfl, hz, hb⟩
      exact ⟨v', rfl, zs_ok hz rfl rfl, hb⟩
    · cases q
theorem whole_calls (w : World) (v : Value) (z : Int) (h : ZAt w v z) :
    CallsIn Fence.wide 0 Tryz.prog 30 #[v] w fun e w' => ∃ v', e = .returned v' ∧ QAt w' v' (z : Rat) ∧ Below w.heap.size w w' := by
  refine (runZ (told_W z) (n := 50) (r := cellsQ (zc (.leaf 0)) (zs false (.leaf 7))) (ts := .cons (zc (.leaf 0)) .nil) (by kernel_rfl) (xs := #[v]) ⟨v, [], rfl, zc_leaf h rfl, rfl⟩).mono ?_
  rintro e w' ⟨v', rfl, ⟨xs, rfl, a, r, e1, h1, b, r2, rfl, h2, c, r3, rfl, h3, d, r4, rfl, h4, h5⟩, hB⟩
  have h5 : r4 = [] := h5
  subst h5
  have e' : xs = #[a, b, c, d] := Array.toList_inj.1 (by simpa using e1)
  subst e'
  have h3 : some (Value.bool false) = some c := h3
  cases h3
  have h1 : a = .bool (decide (z < 0)) := h1
  subst h1
  exact ⟨_, rfl, ⟨b, d, rfl, h2, h4⟩, hB⟩

/-- Back with a fraction out of its variable, and another value. -/
theorem ret_rat_two {fn : Func} {p t : Tmp} {R : Ending → World → Prop} {a : Act} {w : World} {x y z x0 x1 x2 u : Value} (h : fn.results = #[.cell p 27, .tmp t]) (hd : a.defers = []) (g : Nat) (hp : a.tmps.getD p undef = .pointer (some ⟨g, 0, none⟩)) (ht : a.tmps.getD t undef = u)
    (h0 : w.cell? ⟨g, 0, none⟩ = some x0) (h1 : w.cell? ⟨g, 1, none⟩ = some x1) (h2 : w.cell? ⟨g, 2, none⟩ = some x2) (hR : R (.returned (.tuple #[.agg #[x, y, z], u])) (((w.setCell ⟨g, 0, none⟩ x).setCell ⟨g, 1, none⟩ y).setCell ⟨g, 2, none⟩ z)) :
    bodyPost Tryz.prog fn R .ret a (((w.setCell ⟨g, 0, none⟩ x).setCell ⟨g, 1, none⟩ y).setCell ⟨g, 2, none⟩ z) := by
  have n01 : (⟨g, 0, none⟩ : Addr) ≠ ⟨g, 1, none⟩ := by intro e; injection e with _ e; omega
  have n02 : (⟨g, 0, none⟩ : Addr) ≠ ⟨g, 2, none⟩ := by intro e; injection e with _ e; omega
  have n12 : (⟨g, 1, none⟩ : Addr) ≠ ⟨g, 2, none⟩ := by intro e; injection e with _ e; omega
  have c0 : (((w.setCell ⟨g, 0, none⟩ x).setCell ⟨g, 1, none⟩ y).setCell ⟨g, 2, none⟩ z).cell? ⟨g, 0, none⟩ = some x := by
    rw [World.cell?_setCell_other _ _ _ _ n02.symm, World.cell?_setCell_other _ _ _ _ n01.symm, World.cell?_setCell_same _ _ _ h0]
  have c1 : (((w.setCell ⟨g, 0, none⟩ x).setCell ⟨g, 1, none⟩ y).setCell ⟨g, 2, none⟩ z).cell? ⟨g, 1, none⟩ = some y := by
    rw [World.cell?_setCell_other _ _ _ _ n12.symm, World.cell?_setCell_same _ _ _ (by rw [World.cell?_setCell_other _ _ _ _ n01]; exact h1)]
  have c2 : (((w.setCell ⟨g, 0, none⟩ x).setCell ⟨g, 1, none⟩ y).setCell ⟨g, 2, none⟩ z).cell? ⟨g, 2, none⟩ = some z := by
    rw [World.cell?_setCell_same _ _ _ (by rw [World.cell?_setCell_other _ _ _ _ n12, World.cell?_setCell_other _ _ _ _ n02]; exact h2)]
  refine bodyPost_ret ?_ hd hR
  have hl := l25 g [x, y, z] (((w.setCell ⟨g, 0, none⟩ x).setCell ⟨g, 1, none⟩ y).setCell ⟨g, 2, none⟩ z) rfl (fun j v hj => by
    match j, hj with
    | 0, hj => rw [← hj]; exact c0
    | 1, hj => rw [← hj]; exact c1
    | 2, hj => rw [← hj]; exact c2
    | n + 3, hj => simp at hj)
  simp only [Instr.loadAt, Instr.sureAddr, Sem.run_bind, Sem.run_pure, Result.andThen_ok] at hl
  have hp' : a.tmps[p]?.getD undef = .pointer (some ⟨g, 0, none⟩) := by rw [← Array.getD_eq_getD_getElem?]; exact hp
  have ht' : a.tmps[t]?.getD undef = u := by rw [← Array.getD_eq_getD_getElem?]; exact ht
  simp [results, h, hp', ht', asAddr, hl]

theorem ret_rat_pair {fn : Func} {p t : Tmp} {R : Ending → World → Prop} {a : Act} {w : World} {x y z u : Value} (h : fn.results = #[.cell p 27, .tmp t]) (hd : a.defers = []) (g : Nat) (hp : a.tmps.getD p undef = .pointer (some ⟨g, 0, none⟩)) (ht : a.tmps.getD t undef = u)
    (hb : Box3 w g x y z) (hR : R (.returned (.tuple #[.agg #[x, y, z], u])) w) : bodyPost Tryz.prog fn R .ret a w := by
  refine bodyPost_ret ?_ hd hR
  have hl := l25 g [x, y, z] w rfl hb
  simp only [Instr.loadAt, Instr.sureAddr, Sem.run_bind, Sem.run_pure, Result.andThen_ok] at hl
  have hp' : a.tmps[p]?.getD undef = .pointer (some ⟨g, 0, none⟩) := by rw [← Array.getD_eq_getD_getElem?]; exact hp
  have ht' : a.tmps[t]?.getD undef = u := by rw [← Array.getD_eq_getD_getElem?]; exact ht
  simp [results, h, hp', ht', asAddr, hl]

theorem ratAt_zero (w : World) : RatAt w (.agg #[.bool false, .slice none 0 0, .slice none 0 0]) 0 := ⟨_, _, rfl, magAt_nil _ _ _, magAt_nil _ _ _⟩

set_option maxRecDepth 100000 in
set_option maxHeartbeats 8000000 in
/-- **'Make'**, by 0. -/
theorem make_zero (w : World) (a : Int) :
    CallsIn Fence.wide 0 Tryz.prog 13 #[.int .i64 a, .int .i64 0] w fun e w' => ∃ v', e = .returned (.tuple #[v', .int .i64 6]) ∧ RatAt w' v' 0 ∧ Below w.heap.size w w' := by
  refine callsIn_of_wp Tryz.func13 rfl trivial ?_ rfl
  simp only [Tryz.ntmps13, List.size_toArray, List.length_cons, List.length_nil, Nat.reduceAdd, Nat.reduceSub, Array.replicate_succ, Array.replicate_zero, List.push_toArray, List.append_toArray, List.nil_append, List.cons_append]
  have HK : Hid (Own3 w (w.alloc (.cells #[.bool false, .slice none 0 0, .slice none 0 0] 27))) := Hid.intro (own3_new _ _ _ _ _)
  obtain ⟨x0, x1, x2, z0, z1, z2, y0, y1, y2⟩ := HK.out.cells
  gi_wp2
  refine ret_rat_pair rfl rfl w.heap.size rfl rfl (box3_new _ _ _ _ _) ?_
  exact ⟨_, rfl, ratAt_zero _, HK.out.2.2⟩

set_option maxRecDepth 100000 in
set_option maxHeartbeats 8000000 in
/-- **'Make'**, by another number. -/
theorem make_calls (w : World) (a b : Int) (ha1 : -9223372036854775808 ≤ a) (ha2 : a ≤ 9223372036854775807) (hb1 : -9223372036854775808 ≤ b) (hb2 : b ≤ 9223372036854775807) (hb0 : b ≠ 0) :
    CallsIn Fence.wide 0 Tryz.prog 13 #[.int .i64 a, .int .i64 b] w fun e w' => ∃ v', e = .returned (.tuple #[v', .int .i64 0]) ∧ RatAt w' v' ((a : Rat) / (b : Rat)) ∧ Below w.heap.size w w' := by
  refine callsIn_of_wp Tryz.func13 rfl trivial ?_ rfl
  simp only [Tryz.ntmps13, List.size_toArray, List.length_cons, List.length_nil, Nat.reduceAdd, Nat.reduceSub, Array.replicate_succ, Array.replicate_zero, List.push_toArray, List.append_toArray, List.nil_append, List.cons_append]
  have hb0' : (b == 0) = false := beq_false_of_ne hb0
  gi_wp2_with (gi_at_call 16; refine stop ?_)
  unfold Stop
  obtain ⟨W, hW⟩ : ∃ W, W = w.alloc (.cells #[.bool false, .slice none 0 0, .slice none 0 0] 27) := ⟨_, rfl⟩
  rw [← hW]
  have HK : Hid (Own3 w W) := by rw [hW]; exact own3_new _ _ _ _ _
  have HE : Hid (Elem W w.heap.size 27) := Hid.intro (by rw [hW]; exact elem_new _ _ _)
  clear hW
  refine (ofN_calls W a ha1 ha2).mono ?_
  rintro e w2 ⟨v2, rfl, hr2, hB⟩
  replace HE := Hid.intro (HE.out.below hB HK.out.2.1)
  replace HK := Hid.intro (HK.out.step hB)
  have HR2 := Hid.intro hr2
  clear hr2 hB
  gi_wp2_with (gi_at_call 16; refine stop ?_)
  unfold Stop
  refine (ofN_calls w2 b hb1 hb2).mono ?_
  rintro e w3 ⟨v3, rfl, hr3, hB⟩
  replace HE := Hid.intro (HE.out.below hB HK.out.2.1)
  replace HK := Hid.intro (HK.out.step hB)
  replace HR2 := Hid.intro (HR2.out.below hB)
  have HR3 := Hid.intro hr3
  clear hr3 hB
  gi_wp2_with (gi_at_call 61; refine stop ?_)
  unfold Stop
  refine (over_calls w3 v2 v3 (a : Rat) (b : Rat) 3 HR2.out HR3.out (ratLe_int (int_small ha1 ha2) (by decide)) (ratLe_int (int_small hb1 hb2) (by decide)) (by rw [rat_ofInt_num]; exact hb0) (by decide)).mono ?_
  rintro e w4 ⟨v4, rfl, hr4, hB⟩
  replace HE := Hid.intro (HE.out.below hB HK.out.2.1)
  replace HK := Hid.intro (HK.out.step hB)
  have HR4 := Hid.intro hr4
  obtain ⟨o, k, c, o2, k2, c2, rfl⟩ := hr4.form
  obtain ⟨x0, x1, x2, z0, z1, z2, y0, y1, y2⟩ := HK.out.cells
  clear hr4 hB HR2 HR3
  obtain ⟨sg, hsg⟩ : ∃ sg, decide (((a : Rat) / (b : Rat)).num < 0) = sg := ⟨_, rfl⟩
  rw [hsg] at HR4
  rw [hsg]
  gi_wp2
  refine ret_rat_two rfl rfl w.heap.size rfl rfl z0 z1 z2 ?_
  have hB := HK.out.2.2
  refine ⟨_, rfl, ?_, ((hB.setCell (Nat.le_refl _) _).setCell (Nat.le_refl _) _).setCell (Nat.le_refl _) _⟩
  exact ((HR4.out.setElem HE.out (by decide)).setElem (HE.out.setCell _ _) (by decide)).setElem ((HE.out.setCell _ _).setCell _ _) (by decide)

/-- 'awake' answers true behind this world. -/
def Awake (w : World) : Prop := ∀ w', Below w.heap.size w w' → CallsIn Fence.wide 0 Tryz.prog 19 #[] w' fun e w'' => e = .returned (.bool true) ∧ Below w'.heap.size w' w''
theorem Awake.below {w w' : World} (h : Awake w) (hb : Below w.heap.size w w') : Awake w' := fun w2 hb2 => h w2 (hb.trans (hb2.mono hb.size))
def AtRel (R : Act → World → Prop) : Exit → Act → World → Prop
  | .normal, a, w => R a w
  | _, _, _ => False
theorem region_to {F : Fence} {n : Nat} {P : Program} {c : Code} {Q : Exit → Act → World → Prop} {a : Act} {w : World} (R : Act → World → Prop) (h : ∀ a' w', R a' w' → Q .normal a' w') (hr : c.wpIn F n P (AtRel R) a w) : c.wpIn F n P Q a w :=
  wpIn_mono hr fun e a w hh => by
    cases e with
    | normal => exact h a w hh
    | _ => exact hh.elim
theorem ret_tmp {P : Program} {fn : Func} {t : Tmp} {R : Ending → World → Prop} {a : Act} {w : World} {u : Value} (h : fn.results = #[.tmp t]) (hd : a.defers = []) (ht : a.tmps.getD t undef = u) (hR : R (.returned u) w) : bodyPost P fn R .ret a w := by
  refine bodyPost_ret ?_ hd hR
  have ht' : a.tmps[t]?.getD undef = u := by rw [← Array.getD_eq_getD_getElem?]; exact ht
  simp [results, h, ht']
theorem textQ_zero : textQ 0 = ⟨#[48]⟩ := by
  rw [textQ_one rfl]
  exact textZ_zero

end Go.Num
namespace Go.Num
open Go.Eng Go.Shelf Go.RowKit Go.Proofs Go.Proofs.YtepakfjilnpodaaGreatDoor

/-- What the library's functions lean on. -/
structure Laid (w : World) : Prop where
  pow : Pow10 w
  len : ∃ m, w.cell? ⟨0, 0, none⟩ = some (.int .i64 m)
theorem Laid.below {w w' : World} (h : Laid w) (hb : Below w.heap.size w w') : Laid w' := by
  obtain ⟨h1, m, h2⟩ := h
  exact ⟨h1.below hb, m, (hb.cell (World.block_lt_of_cell? _ _ h2)).trans h2⟩

/-! ### A number out of its limbs -/
def numOf : List Nat → Nat
  | [] => 0
  | d :: r => d + B * numOf r
def limbsOf : AV → Option (List Nat)
  | .nil => some []
  | .cons (.sc (.int .u64 (.ofNat n))) t => (limbsOf t).map (n :: ·)
  | _ => none
def okLimbs : List Nat → Bool
  | [] => true
  | [d] => Nat.blt d 1000000000 && Nat.blt 0 d
  | d :: r => Nat.blt d 1000000000 && okLimbs r
theorem bltN_lt {a b : Nat} (h : Nat.blt a b = true) : a < b := Nat.le_of_ble_eq_true h
theorem okLimbs_lt : ∀ {l : List Nat}, okLimbs l = true → ∀ d ∈ l, d < B
  | [], _, d, h => by cases h
  | [x], h, d, hd => by
    simp only [okLimbs, Bool.and_eq_true] at h
    have := bltN_lt h.1
    rcases List.mem_cons.1 hd with rfl | hd
    · exact this
    · cases hd
  | x :: y :: r, h, d, hd => by
    simp only [okLimbs, Bool.and_eq_true] at h
    have := bltN_lt h.1
    rcases List.mem_cons.1 hd with rfl | hd
    · exact this
    · exact okLimbs_lt h.2 d hd
theorem numOf_limb : ∀ {l : List Nat}, (∀ d ∈ l, d < B) → ∀ (i d : Nat), l[i]? = some d → limb (numOf l) i = d
  | [], _, i, d, h => by simp at h
  | x :: r, hl, 0, d, h => by
    have h : x = d := by simpa using h
    subst h
    have hx := hl x (List.mem_cons_self)
    unfold limb numOf
    rw [Nat.pow_zero, Nat.div_one, Nat.add_mul_mod_self_left, Nat.mod_eq_of_lt hx]
  | x :: r, hl, i + 1, d, h => by
    have hx := hl x (List.mem_cons_self)
    have ih := numOf_limb (l := r) (fun d hd => hl d (List.mem_cons_of_mem _ hd)) i d (by simpa using h)
    rw [← ih]
    unfold limb
    congr 1
    show (x + B * numOf r) / B ^ (i + 1) = numOf r / B ^ i
    rw [Nat.pow_succ, Nat.mul_comm (B ^ i), ← Nat.div_div_eq_div_mul, Nat.add_mul_div_left _ _ (by decide), Nat.div_eq_of_lt hx, Nat.zero_add]
theorem numOf_lt : ∀ {l : List Nat}, (∀ d ∈ l, d < B) → numOf l < B ^ l.length
  | [], _ => by decide
  | x :: r, hl => by
    have hx := hl x (List.mem_cons_self)
    have ih := numOf_lt (l := r) (fun d hd => hl d (List.mem_cons_of_mem _ hd))
    show x + B * numOf r < B ^ (r.length + 1)
    have h2 : B * (numOf r + 1) ≤ B * B ^ r.length := Nat.mul_le_mul_left _ ih
    rw [Nat.mul_add, Nat.mul_one] at h2
    rw [Nat.pow_succ, Nat.mul_comm (B ^ r.length) B]
    omega
theorem okLimbs_top : ∀ {l : List Nat}, okLimbs l = true → l ≠ [] → B ^ (l.length - 1) ≤ numOf l
  | [], _, h => absurd rfl h
  | [x], h, _ => by
    simp only [okLimbs, Bool.and_eq_true] at h
    have := bltN_lt h.2
    show B ^ 0 ≤ x + B * 0
    rw [Nat.pow_zero]; omega
  | x :: y :: r, h, _ => by
    simp only [okLimbs, Bool.and_eq_true] at h
    have ih := okLimbs_top (l := y :: r) h.2 (by simp)
    show B ^ (r.length + 1) ≤ x + B * numOf (y :: r)
    have ih : B ^ r.length ≤ numOf (y :: r) := ih
    have := Nat.mul_le_mul_left B ih
    rw [Nat.pow_succ, Nat.mul_comm]
    omega
theorem okLimbs_len {l : List Nat} (h : okLimbs l = true) : LenIs (numOf l) l.length := by
  refine ⟨numOf_lt (okLimbs_lt h), ?_⟩
  by_cases e : l = []
  · subst e; exact .inl rfl
  · exact .inr (okLimbs_top h e)
theorem limbsOf_LR {μ : Mu} : ∀ {cs : AV} {l : List Nat} {xs : List Value}, limbsOf cs = some l → LR μ cs xs → xs = l.map fun (d : Nat) => Value.int .u64 (d : Int)
  | .nil, l, xs, h, hx => by
    have h : some [] = some l := h
    cases h
    have hx : xs = [] := hx
    rw [hx]; rfl
  | .cons (.sc (.int .u64 (.ofNat n))) t, l, xs, h, hx => by
    simp only [limbsOf, Option.map_eq_some_iff] at h
    obtain ⟨r, h1, rfl⟩ := h
    obtain ⟨x, ys, rfl, h2, h3⟩ := hx
    have h2 : x = .int .u64 (n : Int) := h2
    rw [h2, limbsOf_LR h1 h3]; rfl

/-! ### Decimal digits, by fuel -/
def decF : Nat → Nat → List UInt8 → List UInt8
  | 0, _, acc => acc
  | f + 1, n, acc => bif Nat.blt n 10 then UInt8.ofNat (48 + n) :: acc else decF f (n / 10) (UInt8.ofNat (48 + n % 10) :: acc)
theorem decF_eq : ∀ (f n : Nat) (acc : List UInt8), n < 10 ^ f → 0 < f → decF f n acc = Lib.decDigits n ++ acc
  | 0, n, acc, _, h => by omega
  | f + 1, n, acc, h, _ => by
    unfold decF
    cases e : Nat.blt n 10 with
    | true =>
      have := bltN_lt e
      rw [Lib.decDigits, dif_pos this]
      rfl
    | false =>
      have hn : ¬ n < 10 := by
        intro h'
        have : Nat.blt n 10 = true := Nat.ble_eq_true_of_le h'
        rw [e] at this; cases this
      have hf : 0 < f := by
        rcases Nat.eq_zero_or_pos f with h0 | h0
        · subst h0; simp at h; omega
        · exact h0
      rw [cond_false, decF_eq f (n / 10) _ (by rw [Nat.pow_succ] at h; omega) hf, Lib.decDigits.eq_def n, dif_neg hn, List.append_assoc]
      rfl

theorem dec_fuel {n k f : Nat} (h : n < B ^ k) (hf : 9 * k ≤ f) (h0 : 0 < f) : decF f n [] = Lib.decDigits n := by
  rw [decF_eq f n [] (Nat.lt_of_lt_of_le (by rw [← pow9]; exact h) (Nat.pow_le_pow_right (by decide) hf)) h0, List.append_nil]
def strA (l : List UInt8) : AV := .sc (.str ⟨⟨l⟩⟩)
/-- What is told. -/
def O71 (args : AV) (H : AH) : Option AV :=
  match args with
  | .cons (.sc .nilSlice) .nil => some (strA [48])
  | .cons (.slc i o len _ _ e) .nil => bif Nat.beq e 1 then
      match H.cellsAt i o len with
      | some cs => match limbsOf cs with
        | some l => bif okLimbs l && Nat.ble l.length 1000 then some (strA (decF 9000 (numOf l) [])) else none
        | none => none
      | none => none
    else none
  | _ => none
def OA (f : FuncId) (args : AV) (H : AH) : Option (AV × AH) :=
  (bif Nat.beq f 141 then O71 args H else none).map fun v => (v, H)
theorem bytesW_below (w : World) (s : ByteArray) : Below w.heap.size w (Lib.bytesWorld w 5 s) :=
  ⟨rfl, rfl, rfl, by rw [Lib.bytesWorld_size]; omega, fun k hk => Lib.bytesWorld_at_old w 5 s k hk⟩
theorem body_of {f : FuncId} (h : (match Tryz.prog.funcs[f]? with | some fn => fn.body.isSome | none => false) = true) : ∃ fn : Func, Tryz.prog.funcs[f]? = some fn ∧ fn.body.isSome = true := by
  split at h
  · rename_i fn e; exact ⟨fn, e, h⟩
  · cases h
theorem str_val (s : ByteArray) : (⟨⟨s.data.toList⟩⟩ : ByteArray) = s := by cases s; rfl
theorem one_arg {μ : Mu} {a : AV} {xs : List Value} (h : LR μ (.cons a .nil) xs) : ∃ x, xs = [x] ∧ VR μ a x := by
  obtain ⟨x, r, rfl, h1, h2⟩ := h
  have h2 : r = [] := h2
  subst h2
  exact ⟨x, rfl, h1⟩
theorem two_arg {μ : Mu} {a b : AV} {xs : List Value} (h : LR μ (.cons a (.cons b .nil)) xs) : ∃ x y, xs = [x, y] ∧ VR μ a x ∧ VR μ b y := by
  obtain ⟨x, r, rfl, h1, h2⟩ := h
  obtain ⟨y, rfl, h3⟩ := one_arg h2
  exact ⟨x, y, rfl, h1, h3⟩
theorem arr_of {xs : Array Value} {l : List Value} (h : xs.toList = l) : xs = l.toArray := Array.toList_inj.1 (by simpa using h)
theorem tup_VR {μ : Mu} {cs : AV} {l : List Value} (h : LR μ cs l) : VR μ (.tup cs) (.tuple l.toArray) := ⟨l.toArray, rfl, h⟩

theorem told_A {w0 : World} {G : Sett} (hL : Laid w0) : CallsOK Tryz.prog w0.heap.size w0 G OA := by
  refine told_ok ?_
  intro f args H v H' ho
  unfold OA at ho
  rw [Option.map_eq_some_iff] at ho
  obtain ⟨v', ho, e⟩ := ho
  cases e
  cases h71 : Nat.beq f 141 with
  | false => rw [h71] at ho; cases ho
  | true =>
    rw [h71] at ho
    have hf := (beq_iff _ _).1 h71
    subst hf
    refine ⟨body_of (by kernel_rfl), rfl, ?_⟩
    intro μ w xs hrep hxs
    simp only [cond_true] at ho
    unfold O71 at ho
    have hP := (hL.below hrep.below).pow
    split at ho
    · cases ho
      obtain ⟨x, e, h1⟩ := one_arg hxs
      have h1 : x = .slice none 0 0 := h1
      subst h1
      rw [arr_of e]
      refine (callsIn_wide.1 (mString_form w _ 0 0 lenIs_zero ⟨none, 0, rfl, fun h => by omega⟩ (pow_pos' 100000) hP)).mono ?_
      rintro e w' ⟨rfl, hB⟩
      refine ⟨_, rfl, ?_, hB⟩
      show _ = Value.string _
      rw [Lib.decDigits, dif_pos (by decide)]
      rfl
    · rename_i i o len cm ex e
      cases hb : Nat.beq e 1 with
      | false => rw [hb] at ho; cases ho
      | true =>
        rw [hb] at ho
        simp only [cond_true] at ho
        have he := (beq_iff _ _).1 hb
        subst he
        split at ho
        · rename_i cs hcs
          split at ho
          · rename_i l hl
            cases hb : okLimbs l && Nat.ble l.length 1000 with
            | false => rw [hb] at ho; cases ho
            | true =>
              rw [hb] at ho
              cases ho
              rw [Bool.and_eq_true] at hb
              have hlen := Nat.le_of_ble_eq_true hb.2
              obtain ⟨x, e, b, N, c, hm, rfl, _, _, _, _⟩ := one_arg hxs
              rw [arr_of e]
              obtain ⟨xs2, h1, h2, h3⟩ := hrep.load hcs hm
              have hxl := limbsOf_LR hl h2
              have hll : l.length = len := by rw [← h1, hxl, List.length_map]
              have hlt := okLimbs_lt hb.1
              have hN : numOf l < B ^ 1000 := lt_lift 1000 (numOf_lt hlt) hlen
              refine (callsIn_wide.1 (mString_form w _ (numOf l) len (hll ▸ okLimbs_len hb.1) ⟨_, c, rfl, fun hk => ⟨⟨b, o, none⟩, rfl, (hrep.dom i b N hm).2, fun j hj => ?_⟩⟩ (lt_lift 100000 hN (by decide)) hP)).mono ?_
              · obtain ⟨d, hd⟩ : ∃ d, l[j]? = some d := ⟨_, List.getElem?_eq_getElem (by omega)⟩
                rw [numOf_limb hlt j d hd]
                exact h3 j _ (by rw [hxl, List.getElem?_map, hd]; rfl)
              · rintro e w' ⟨rfl, hB⟩
                refine ⟨_, rfl, ?_, hB⟩
                show _ = Value.string _
                rw [dec_fuel (k := 1000) hN (by decide) (by decide)]
          · cases ho
        · cases ho
    · cases ho
end Go.Num
