/-
  The texts of the program's numbers.
  Conditions: none.
-/
import Derived.Test.YtoamcgjbelhnkaaGreatDoorRefZ
import Derived.Test.YtoamcgjbelhnkaaGreatDoorTryzShelf
import Derived.Lib.ItoaMem

namespace Go.Num
open Go.Shelf Go.RowKit Go.Proofs Go.Proofs.YtoamcgjbelhnkaaGreatDoor

theorem bld_size : (Tryz.prog.info? 158).map (·.size) = some 2 := by kernel_rfl
theorem bld_lies : liesAt Tryz.prog Tryz.prog.depth 158 (2 / Tryz.prog.cellsOf 158) 0 158 1 = true := by kernel_rfl
theorem u156 : Tryz.prog.underlying 156 = some (.pointer 158) := by kernel_rfl
theorem u206 : Tryz.prog.underlying 206 = some .unsafePointer := by kernel_rfl

set_option maxHeartbeats 1000000 in
set_option maxRecDepth 100000 in
theorem copyCheck_used (b : Nat) (w : World) (h0 : w.cell? ⟨b, 0, none⟩ = some (.pointer (some ⟨b, 0, none⟩))) :
    Calls Tryz.prog 152 #[.pointer (some ⟨b, 0, none⟩)] w fun e w' => e = .returned (.tuple #[]) ∧ w' = w := by
  obtain ⟨j, hj, _⟩ := Option.map_eq_some_iff.1 bld_size
  go_enter Tryz.func152, Tryz.ntmps152
  go_wp2
  rw [Lib.run_neq_ptr_same w _ Go.Num.u156 hj]
  go_wp2
  go_end0
  exact ⟨rfl, rfl⟩

set_option maxHeartbeats 1000000 in
set_option maxRecDepth 100000 in
theorem copyCheck_fresh (b : Nat) (w : World) (h0 : w.cell? ⟨b, 0, none⟩ = some (.pointer none)) (hsh : w.shape? b = some (158, 2)) (hfz : w.frozen? ⟨b, 0, none⟩ = false) :
    Calls Tryz.prog 152 #[.pointer (some ⟨b, 0, none⟩)] w fun e w' => e = .returned (.tuple #[]) ∧ w' = w.setCell ⟨b, 0, none⟩ (.pointer (some ⟨b, 0, none⟩)) := by
  obtain ⟨j, hj, hjs⟩ := Option.map_eq_some_iff.1 bld_size
  go_enter Tryz.func152, Tryz.ntmps152
  go_wp2
  rw [Lib.run_to_unsafe w ⟨b, 0, none⟩ Go.Num.u156 Go.Num.u206 hj (by rw [hjs]; decide) hsh (Nat.zero_lt_succ 1)]
  simp only [Result.andThen]
  rw [Oper.upon_value]
  go_wp2
  rw [run_callFunc_extern Tryz.func175 (by kernel_rfl) (by kernel_rfl) (by kernel_rfl) (e := Extern.AbiNoEscape.same) (by kernel_rfl)]
  rw [Lib.run_noEscape]
  simp only [Result.andThen]
  rw [Oper.upon_value]
  go_wp2
  rw [Lib.run_from_unsafe w ⟨b, 0, none⟩ Go.Num.u206 Go.Num.u156 hj hsh bld_lies]
  simp only [Result.andThen]
  rw [Oper.upon_value]
  go_wp2
  go_end0
  exact ⟨rfl, rfl⟩

theorem copyCheck_calls (B b : Nat) (bs : List Value) (w : World) (h : Lib.IsBuilder 158 5 B b bs w) :
    Calls Tryz.prog 152 #[.pointer (some ⟨b, 0, none⟩)] w fun e w' => e = .returned (.tuple #[]) ∧ (Lib.BuilderAt 158 5 B b (.pointer (some ⟨b, 0, none⟩)) bs w' ∧ Below B w w') := by
  rcases h with h | h
  · refine (copyCheck_fresh b w h.cell0 h.shape h.frozen0).mono ?_
    rintro e w' ⟨rfl, rfl⟩
    exact ⟨rfl, h.used _, (Below.refl B w).setCell (p := ⟨b, 0, none⟩) h.1 _⟩
  · refine (copyCheck_used b w h.cell0).mono ?_
    rintro e w' ⟨rfl, rfl⟩
    exact ⟨rfl, h, Below.refl B _⟩

set_option maxHeartbeats 2000000 in
set_option maxRecDepth 100000 in
/-- **(*strings.Builder).WriteString.** -/
theorem writeString_calls (B b : Nat) (bs : List Value) (s : ByteArray) (w : World) (h : Lib.IsBuilder 158 5 B b bs w) (hlen : bs.length + s.size ≤ 140737488355328) (hBw : B ≤ w.heap.size) :
    Calls Tryz.prog 113 #[.pointer (some ⟨b, 0, none⟩), .string s] w fun e w' => e = .returned (.tuple #[.int .i64 s.size, .nilIface]) ∧ (Lib.BuilderAt 158 5 B b (.pointer (some ⟨b, 0, none⟩)) (bs ++ Lib.strCells s) w' ∧ Below B w w') := by
  go_enter Tryz.func113, Tryz.ntmps113
  go_wp2_with (go_at_call 152; refine (copyCheck_calls B b bs _ h).mono ?_)
  rintro e w1 ⟨rfl, h1, hb1⟩
  obtain ⟨hB, v, hbk, hown, hne⟩ := h1
  have c0 : w1.cell? ⟨b, 0, none⟩ = some (.pointer (some ⟨b, 0, none⟩)) := by rw [Lib.cell_of_heap hbk]; rfl
  have c1 : w1.cell? ⟨b, 1, none⟩ = some v := by rw [Lib.cell_of_heap hbk]; rfl
  go_wp2_with (at_builtin; refine Lib.wpList_append_own_string _ rfl _ _ 107 9 rfl B 5 Tryz.t5 Go.Num.u107 Go.Num.u9 t5_info t5_zero t5_size t5_bytes _ _ _ rfl hown s rfl ?c3 ?c4 ?c5 ?_)
  case c3 => unfold maxLen; omega
  case c4 => omega
  case c5 => have := hb1.size; omega
  intro v' w2 hown' hgrow _
  have hlt : b < w1.heap.size := by
    rcases Nat.lt_or_ge b w1.heap.size with h' | h'
    · exact h'
    · simp [Array.getElem?_eq_none h'] at hbk
  have hb2 : w2.heap[b]? = some (.cells #[.pointer (some ⟨b, 0, none⟩), v] 158 (0, 0)) := by
    rw [hgrow.block b hlt (fun e => hne e.symm)]
    exact hbk
  have d0 : w2.cell? ⟨b, 0, none⟩ = some (.pointer (some ⟨b, 0, none⟩)) := by rw [Lib.cell_of_heap hb2]; rfl
  have d1 : w2.cell? ⟨b, 1, none⟩ = some v := by rw [Lib.cell_of_heap hb2]; rfl
  have f1 : w2.frozen? ⟨b, 1, none⟩ = false := Lib.frozen_of_heap hb2 1
  obtain ⟨ao, n', cap, rfl⟩ : ∃ ao n' cap, v' = .slice ao n' cap := by
    rcases hown'.2 with ⟨hv, _⟩ | ⟨g, cap, cur, hv, _⟩
    · exact ⟨_, _, _, hv⟩
    · exact ⟨_, _, _, hv⟩
  go_wp2
  go_ret2
  refine ⟨rfl, ?_, ?_⟩
  · exact Lib.BuilderAt.put (T := 158) (e := 5) hB hb2 (bs' := bs ++ Lib.strCells s) (by simpa [Lib.strCells_length] using hown') (by decide)
  · exact (hb1.grown hgrow (by have := hb1.size; omega) (fun k hk => (hown.lt k hk).1)).setCell (p := ⟨b, 1, none⟩) hB _
end Go.Num

namespace Go.Num
open Go.Shelf Go.RowKit Go.Sort Go.Proofs Go.Proofs.YtoamcgjbelhnkaaGreatDoor

/-- The table of the powers of ten. -/
abbrev Pow10 (w : World) : Prop := Lib.TabIs Tryz.prog w "internal/strconv.uint64pow10" .u64 Lib.pow10Tab
theorem al209 : Tryz.prog.arrayLen 209 = 24 := by kernel_rfl
theorem el209 : (Tryz.prog.arrayLen 209 == 24) = true := by kernel_rfl

theorem grow_below' (w : World) (os : Array Obj) : Below w.heap.size w (grow w os) := ⟨rfl, rfl, rfl, by simp [grow], fun k hk => by
  show (w.heap ++ os)[k]? = w.heap[k]?
  exact Array.getElem?_append_left hk⟩

set_option maxHeartbeats 6400000 in
set_option maxRecDepth 100000 in
theorem format_calls (u : Nat) (hu64 : u < 18446744073709551616) (w : World) (htab : Pow10 w) :
    Calls Tryz.prog 153 #[.int .u64 u, .int .i64 10] w fun e w' => e = .returned (.string ⟨(Lib.decDigits u).toArray⟩) ∧ Below w.heap.size w w' := by
  by_cases hs : u < 100
  · have hsi : decide ((u : Int) < 100) = true := decide_eq_true (by omega)
    have hwr : IntKind.i64.wrap (u : Int) = (u : Int) := i64_small (by omega)
    go_enter Tryz.func153, Tryz.ntmps153
    go_wp2_with (go_at_call 176; refine (Tryz.internal_strconv_small u hs _).mono ?_; rintro e w' ⟨rfl, rfl⟩)
    go_ret
    exact ⟨rfl, Below.refl _ _⟩
  · have hsi : decide ((u : Int) < 100) = false := decide_eq_false (by omega)
    have hu1 : 1 ≤ u := by omega
    have hnd20 : Lib.nDigits u ≤ 20 := by have := Lib.numDigits_eq u hu1 hu64; split at this <;> omega
    have hsl1 : ∀ W, (Instr.sliceAt 209 (.pointer (some ⟨w.heap.size, 0, none⟩)) none (some (.int .i64 (Lib.nDigits u : Int))) none).run Tryz.prog W = .ok (.slice (some ⟨w.heap.size, 0, none⟩) (Lib.nDigits u) 24) W := fun W => by
      rw [run_sliceAt_array_h W 209 ⟨w.heap.size, 0, none⟩ (by kernel_rfl) .i64 (Lib.nDigits u : Int) (by omega) (by rw [al209]; omega)]
      rw [al209]
      go_simp
    have hH0 : Holds (fun (b : UInt8) => Value.int .u8 (b.toNat : Int)) (w.alloc (.cells Lib.zeros24 209)) w.heap.size 0 (Array.replicate (Lib.nDigits u) 0) := fun i hi => by
      have hj' : i < Lib.nDigits u := by simpa using hi
      refine ⟨?_, World.frozen?_alloc_new _ _ _ _⟩
      rw [Nat.zero_add, World.cell?_alloc_new, Lib.zeros24_at _ (by omega), getElem!_pos _ i hi]
      simp
    have hfmt := Tryz.internal_strconv_formatBase10 w.heap.size 0 24 u (Array.replicate (Lib.nDigits u) 0) (w.alloc (.cells Lib.zeros24 209)) hH0 (by rw [Array.size_replicate]; exact Lib.lt_pow_nDigits u) hu64 (by rw [Array.size_replicate]; omega)
    rw [Array.size_replicate] at hfmt
    have HH0 := Lib.hid hH0
    clear hH0
    go_enter Tryz.func153, Tryz.ntmps153
    go_wp2_with (first
      | (go_at_call 177; refine (Tryz.internal_strconv_numDigits u hu1 hu64 _ (Lib.tabIs_alloc htab _)).mono ?_; rintro e w' ⟨rfl, rfl⟩))
    refine hfmt.mono ?_
    rintro e w' ⟨rfl, k, v', dk, rfl, hF⟩
    have hcv : (convert 107 9 (.slice (some ⟨w.heap.size, 0, none⟩) (Lib.nDigits u) 24)).run Tryz.prog ((putRow (fun (b : UInt8) => Value.int .u8 (b.toNat : Int)) (w.alloc (.cells Lib.zeros24 209)) w.heap.size 0 dk).drewN k) = .ok (.string ⟨(Lib.decDigits u).toArray⟩) ((putRow (fun (b : UInt8) => Value.int .u8 (b.toNat : Int)) (w.alloc (.cells Lib.zeros24 209)) w.heap.size 0 dk).drewN k) := by
      have h := run_convert_bytes_back (P := Tryz.prog) ((putRow (fun (b : UInt8) => Value.int .u8 (b.toNat : Int)) (w.alloc (.cells Lib.zeros24 209)) w.heap.size 0 dk).drewN k) 107 9 5 ⟨w.heap.size, 0, none⟩ 24 (Lib.decDigits u) Go.Num.u107 Go.Num.u5 Go.Num.u9 (fun j hj => by
        rw [Lib.row_is_numeral hF j hj, Lib.add_plain, World.cell?_drewN]
        exact cell?_putRow (fun (b : UInt8) => Value.int .u8 (b.toNat : Int)) _ w.heap.size 0 _ dk HH0.out (by rw [hF.size, Array.size_replicate]) j (by rw [hF.size]; rw [Lib.decDigits_length] at hj; exact hj))
      rw [Lib.decDigits_length] at h
      exact h
    have hB : Below w.heap.size w ((putRow (fun (b : UInt8) => Value.int .u8 (b.toNat : Int)) (w.alloc (.cells Lib.zeros24 209)) w.heap.size 0 dk).drewN k) := by
      rw [alloc_eq_grow]
      obtain ⟨os', _, e⟩ := putRow_grow_new (fun (b : UInt8) => Value.int .u8 (b.toNat : Int)) w #[.cells Lib.zeros24 209] w.heap.size 0 dk (Nat.le_refl _)
      rw [e]
      exact (grow_below' w os').trans ((drewN_below _ _).mono (by simp))
    have HBl := Lib.hid hB
    clear hB
    go_wp2
    go_ret
    exact ⟨rfl, HBl.out⟩
end Go.Num

namespace Go.Num
open Go.Eng Go.Shelf Go.RowKit Go.Sort Go.Proofs Go.Proofs.YtoamcgjbelhnkaaGreatDoor

theorem Pow10.below {w w' : World} (h : Pow10 w) (hb : Below w.heap.size w w') : Pow10 w' := by
  unfold Pow10 Lib.TabIs World.var? at h ⊢
  cases hg : Tryz.prog.globalNamed "internal/strconv.uint64pow10" with
  | none => rw [hg] at h; cases h
  | some g =>
    rw [hg] at h
    simp only [Option.bind_some] at h ⊢
    have hlt : g < w.heap.size := by
      rcases Nat.lt_or_ge g w.heap.size with h' | h'
      · exact h'
      · rw [Array.getElem?_eq_none h'] at h; cases h
    rw [hb.block g hlt]
    exact h

set_option maxHeartbeats 4000000 in
set_option maxRecDepth 100000 in
theorem formatUint_calls (u : Nat) (hu64 : u < 18446744073709551616) (w : World) (htab : Pow10 w) :
    CallsIn Fence.wide 0 Tryz.prog 114 #[.int .u64 u, .int .i64 10] w fun e w' => e = .returned (.string ⟨(Lib.decDigits u).toArray⟩) ∧ Below w.heap.size w w' := by
  refine callsIn_of_wp Tryz.func114 rfl trivial ?_ rfl
  simp only [Tryz.ntmps114, List.size_toArray, List.length_cons, List.length_nil, Nat.reduceAdd, Nat.reduceSub, Array.replicate_succ, Array.replicate_zero, List.push_toArray, List.append_toArray, List.nil_append, List.cons_append]
  gi_wp2_with (gi_at_call 153; refine stop ?_)
  unfold Stop
  refine (callsIn_wide.2 (format_calls u hu64 w htab)).mono ?_
  rintro e w' ⟨rfl, hB⟩
  gi_wp2
  all_goals (first | go_returns | go_ret | go_end0)
  exact ⟨rfl, hB⟩

theorem bld_new (w : World) : Lib.IsBuilder 158 5 w.heap.size w.heap.size [] (w.alloc (.cells #[.pointer none, .slice none 0 0] 158)) :=
  .inl ⟨Nat.le_refl _, .slice none 0 0, by show (w.heap.push _)[w.heap.size]? = _; simp, World.ownsRow_nil _ _ _ _, by simp [Value.ownBlock]⟩
theorem repL (c : UInt8) : ∀ n, Lib.repeatL [c] n = List.replicate n c
  | 0 => rfl
  | n + 1 => by
    show [c] ++ Lib.repeatL [c] n = _
    rw [repL c n]; rfl

theorem row_below {w w' : World} {base e size n : Nat} {v : Value} {xs : List Value} (h : w.ownsRow base e size v n xs) (hb : Below w.heap.size w w') : w'.ownsRow base e size v n xs := by
  refine ⟨h.1, ?_⟩
  rcases h.2 with h | ⟨g, cap, cur, h1, h2, h3, h4⟩
  · exact .inl h
  · have hlt : g < w.heap.size := by
      rcases Nat.lt_or_ge g w.heap.size with h' | h'
      · exact h'
      · rw [Array.getElem?_eq_none h'] at h3; cases h3
    exact .inr ⟨g, cap, cur, h1, h2, (hb.block g hlt).trans h3, h4⟩
theorem bldAt_below {B b : Nat} {p : Value} {bs : List Value} {w w' : World} (h : Lib.BuilderAt 158 5 B b p bs w) (hb : Below w.heap.size w w') : Lib.BuilderAt 158 5 B b p bs w' := by
  have hlt := h.lt
  obtain ⟨h1, v, h2, h3, h4⟩ := h
  exact ⟨h1, v, (hb.block b hlt).trans h2, row_below h3 hb, h4⟩
theorem bld_below {B b : Nat} {bs : List Value} {w w' : World} (h : Lib.IsBuilder 158 5 B b bs w) (hb : Below w.heap.size w w') : Lib.IsBuilder 158 5 B b bs w' := by
  rcases h with h | h
  · exact .inl (bldAt_below h hb)
  · exact .inr (bldAt_below h hb)
theorem nDigits_le : ∀ (n x : Nat), x < 10 ^ (n + 1) → Lib.nDigits x ≤ n + 1
  | 0, x, h => by rw [Lib.nDigits_small (by simpa using h)]; omega
  | n + 1, x, h => by
    by_cases hs : x < 10
    · rw [Lib.nDigits_small hs]; omega
    · rw [Lib.nDigits_big hs]
      have := nDigits_le n (x / 10) (by rw [Nat.pow_succ] at h; omega)
      omega
theorem nDigits_pow {x k : Nat} (hk : 0 < k) (h : x < B ^ k) : Lib.nDigits x ≤ 9 * k := by
  obtain ⟨m, hm⟩ : ∃ m, 9 * k = m + 1 := ⟨9 * k - 1, by omega⟩
  rw [pow9, hm] at h
  rw [hm]
  exact nDigits_le m x h
theorem nDigits_B {x : Nat} (h : x < B ^ 100000) : Lib.nDigits x ≤ 900000 := nDigits_pow (k := 100000) (by decide) h
theorem nDigits_9 {x : Nat} (h : x < 1000000000) : Lib.nDigits x ≤ 9 := nDigits_le 8 x h
theorem strCells_arr (l : List UInt8) : Lib.strCells ⟨l.toArray⟩ = Lib.byteCells l := rfl
theorem bytes_size (l : List UInt8) : (⟨l.toArray⟩ : ByteArray).size = l.length := rfl

set_option maxRecDepth 100000 in
set_option maxHeartbeats 8000000 in
/-- **'String' of a magnitude.** -/
theorem mString_form (w : World) (v : Value) (N k : Nat) (hk : LenIs N k) (hl : ∃ o c, v = .slice o k c ∧ (0 < k → ∃ a : Addr, o = some a ∧ a.block < w.heap.size ∧ ∀ i, i < k → w.cell? (a.add i) = some (.int .u64 ((limb N i : Nat) : Int)))) (hN : N < B ^ 100000) (htab : Pow10 w) :
    CallsIn Fence.wide 0 Tryz.prog 71 #[v] w fun e w' => e = .returned (.string ⟨(Lib.decDigits N).toArray⟩) ∧ Below w.heap.size w w' := by
  have hkL : k ≤ 100000 := hk.le hN
  obtain ⟨o, c, rfl, h1⟩ := hl
  have H1 := Hid.intro h1
  have HK := Hid.intro hk
  have HTab := Hid.intro htab
  clear h1 hk htab
  refine callsIn_of_wp Tryz.func71 rfl trivial ?_ rfl
  simp only [Tryz.ntmps71, List.size_toArray, List.length_cons, List.length_nil, Nat.reduceAdd, Nat.reduceSub, Array.replicate_succ, Array.replicate_zero, List.push_toArray, List.append_toArray, List.nil_append, List.cons_append]
  by_cases hk0 : k = 0
  · subst hk0
    have hN0 : N = 0 := HK.out.zero
    subst hN0
    gi_wp2
    all_goals (first | go_returns | go_ret | go_end0)
    exact ⟨by rw [Lib.decDigits, dif_pos (by decide)]; rfl, Below.refl _ _⟩
  · obtain ⟨m, rfl⟩ : ∃ m, k = m + 1 := ⟨k - 1, by omega⟩
    have hk0' : ((m : Int) + 1 == 0) = false := beq_false_of_ne (by omega)
    obtain ⟨a1, rfl, ha1, hc1⟩ := H1.out (by omega)
    have p1 := hc1 m (by omega)
    obtain ⟨l, hlm⟩ : ∃ l, limb N m = l := ⟨_, rfl⟩
    have hl9 : l < 1000000000 := by rw [← hlm]; exact limb_lt N m
    rw [hlm] at p1
    have HTOP : Hid (l = N / B ^ m) := Hid.intro (by
      rw [← hlm]
      unfold limb
      refine Nat.mod_eq_of_lt (Nat.div_lt_of_lt_mul ?_)
      have := HK.out.1
      rw [Nat.pow_succ] at this
      exact this)
    have HPos : Hid (0 < N / B ^ m) := Hid.intro (by
      have := HK.out.2
      rcases this with h | h
      · omega
      · exact Nat.div_pos h (pow_pos' m))
    obtain ⟨W1, hW1⟩ : ∃ W, W = w.alloc (.cells #[.pointer none, .slice none 0 0] 158) := ⟨_, rfl⟩
    have HBW : Hid (Below w.heap.size w W1) := Hid.intro (by rw [hW1]; exact alloc_below _ _)
    have HBl : Hid (Lib.IsBuilder 158 5 w.heap.size w.heap.size [] W1) := Hid.intro (by rw [hW1]; exact bld_new w)
    have p1' : (w.alloc (.cells #[.pointer none, .slice none 0 0] 158)).cell? (a1.add m) = some (.int .u64 (l : Int)) := by
      rw [← hW1]
      exact (HBW.out.cell (p := a1.add m) (by rw [add_block]; exact ha1)).trans p1
    have hH := Hid.intro hc1
    clear hc1 p1
    gi_wp2_with (gi_at_call 114; refine stop ?_)
    unfold Stop
    rw [← hW1]
    refine (formatUint_calls l (by omega) W1 (HTab.out.below HBW.out)).mono ?_
    rintro e w2 ⟨rfl, hb2⟩
    have HBl2 := Hid.intro (bld_below HBl.out hb2)
    have HBW2 := Hid.intro (HBW.out.trans (hb2.mono HBW.out.size))
    obtain ⟨b, hbs⟩ : ∃ b, w.heap.size = b := ⟨_, rfl⟩
    have HLT := Hid.intro hN
    have hab : a1.block < b := by omega
    rw [hbs] at HBl2 HBW2
    have HTab2 : Hid (∀ W, Below b w W → Pow10 W) := Hid.intro fun W h => HTab.out.below (by rw [hbs]; exact h)
    have hsz2 := HBW2.out.size
    have hbsz : b ≤ w2.heap.size := by omega
    obtain ⟨S, hS⟩ : ∃ S : ByteArray, (⟨(Lib.decDigits l).toArray⟩ : ByteArray) = S := ⟨_, rfl⟩
    rw [hS, hbs]
    clear HBl HBW hW1 p1' hb2 hlm HTab H1
    gi_wp2_with (gi_at_call 113; refine stop ?_)
    unfold Stop
    refine (callsIn_wide.2 (writeString_calls b b [] S w2 HBl2.out (by rw [← hS, bytes_size, Lib.decDigits_length]; have := nDigits_9 hl9; simp; omega) hbsz)).mono ?_
    rintro e w3 ⟨rfl, hbl3, hb3⟩
    have HBl3 : Hid (Lib.IsBuilder 158 5 b b (Lib.byteCells (Lib.decDigits (N / B ^ m))) w3) := Hid.intro (.inr (by
      rw [← hS, List.nil_append, strCells_arr, HTOP.out] at hbl3
      exact hbl3))
    have HBW3 := Hid.intro (HBW2.out.trans hb3)
    clear hbl3 hb3 HBl2 HBW2 hsz2 hbsz hS HTOP hl9
    gi_wp2
    gi_loopw [4, 5] (fun iv _ wr => ∃ i0 : Int, -1 ≤ i0 ∧ i0 < m ∧ iv = .int .i64 i0 ∧ Hid (Lib.IsBuilder 158 5 b b (Lib.byteCells (Lib.decDigits (N / B ^ (i0 + 1).toNat))) wr) ∧ Hid (Below b w wr)) (fun iv _ _ => (intOf iv + 1).toNat)
    case atStart => exact ⟨(m : Int) - 1, by omega, by omega, by go_num, Hid.intro (by rw [show ((m : Int) - 1 + 1).toNat = m by omega]; exact HBl3.out), HBW3.out⟩
    case round =>
      obtain ⟨i0, hi1, hi2, rfl, HBl, HB⟩ := hrel
      clear HBl3 HBW3
      by_cases h0 : 0 ≤ i0
      · obtain ⟨j, rfl⟩ : ∃ j : Nat, i0 = (j : Int) := ⟨i0.toNat, by omega⟩
        rw [show ((j : Int) + 1).toNat = j + 1 by omega] at HBl
        have p1 := (HB.out.cell (p := a1.add j) (by rw [add_block]; exact hab)).trans (hH.out j (by omega))
        obtain ⟨lj, hlj⟩ : ∃ l, limb N j = l := ⟨_, rfl⟩
        have hlj9 : lj < 1000000000 := by rw [← hlj]; exact limb_lt N j
        rw [hlj] at p1
        have HLJ := Hid.intro hlj
        clear hlj
        gi_wp2_with (gi_at_call 114; refine stop ?_)
        unfold Stop
        refine (formatUint_calls lj (by omega) wr (HTab2.out wr HB.out)).mono ?_
        rintro e w4 ⟨rfl, hb4⟩
        have hbr : b ≤ wr.heap.size := by have := HB.out.size; omega
        have HBl4 := Hid.intro (bld_below HBl.out hb4)
        have HB4 := Hid.intro (HB.out.trans (hb4.mono hbr))
        have hbr4 : b ≤ w4.heap.size := Nat.le_trans hbr hb4.size
        obtain ⟨S, hS⟩ : ∃ S : ByteArray, (⟨(Lib.decDigits lj).toArray⟩ : ByteArray) = S := ⟨_, rfl⟩
        have hSd : S.size = Lib.nDigits lj := by rw [← hS, bytes_size, Lib.decDigits_length]
        have hd9 := nDigits_9 hlj9
        have hd1 := Lib.nDigits_pos lj
        have HS := Hid.intro hS
        obtain ⟨d, hd⟩ : ∃ d, Lib.nDigits lj = d := ⟨_, rfl⟩
        have HD := Hid.intro hd
        rw [hd] at hSd hd9 hd1
        obtain ⟨d', hdd⟩ : ∃ d', 9 - d = d' := ⟨_, rfl⟩
        rw [hS]
        clear hb4 hS hd HBl HB p1
        gi_wp2_with (gi_at_call 115; refine stop ?_)
        unfold Stop
        have e9 : ((9 : Int) - (d : Int)) = (d' : Int) := by omega
        rw [e9]
        refine (callsIn_wide.2 (Tryz.strings_Repeat ⟨#[48]⟩ d' w4 (by omega) (by show 1 * d' ≤ _; omega))).mono ?_
        obtain ⟨R, hR⟩ : ∃ R : ByteArray, (⟨(Lib.repeatL (⟨#[48]⟩ : ByteArray).data.toList d').toArray⟩ : ByteArray) = R := ⟨_, rfl⟩
        rintro e w5 ⟨he, hb5⟩
        rw [hR] at he
        subst he
        have HBl5 := Hid.intro (bld_below HBl4.out hb5)
        have HB5 := Hid.intro (HB4.out.trans (hb5.mono hbr4))
        have hbr5 : b ≤ w5.heap.size := Nat.le_trans hbr4 hb5.size
        have hR2 : (⟨(List.replicate d' 48).toArray⟩ : ByteArray) = R := by rw [← hR, ← repL 48 d']
        have hRd : R.size = d' := by rw [← hR2, bytes_size, List.length_replicate]
        have HR := Hid.intro hR2
        clear hb5 hR hR2 e9 HBl4 HB4
        gi_wp2_with (gi_at_call 113; refine stop ?_)
        unfold Stop
        refine (callsIn_wide.2 (writeString_calls b b _ (R ++ S) w5 HBl5.out (by
          rw [Lib.byteCells_length, Lib.decDigits_length, ByteArray.size_append, hRd, hSd]
          have := nDigits_B (Nat.lt_of_le_of_lt (Nat.div_le_self N (B ^ (j + 1))) HLT.out)
          omega) hbr5)).mono ?_
        rintro e w6 ⟨rfl, hbl6, hb6⟩
        have HBl6 : Hid (Lib.IsBuilder 158 5 b b (Lib.byteCells (Lib.decDigits (N / B ^ j))) w6) := Hid.intro (.inr (by
          have hpos : 0 < N / B ^ (j + 1) := Nat.lt_of_lt_of_le HPos.out (Nat.div_le_div_left (pow_mono (by omega)) (pow_pos' _))
          rw [dec_down hpos, Lib.byteCells_append, HLJ.out, HD.out, hdd]
          have e : Lib.strCells (R ++ S) = Lib.byteCells (List.replicate d' 48 ++ Lib.decDigits lj) := by
            rw [Lib.strCells_eq, ByteArray.data_append, Array.toList_append, ← HR.out, ← HS.out]
          rw [e] at hbl6
          exact hbl6))
        have HB6 := Hid.intro (HB5.out.trans hb6)
        clear hbl6 hb6 HBl5 HB5
        gi_wp2
        refine ⟨⟨(j : Int) - 1, by omega, by omega, by go_num, Hid.intro (by rw [show ((j : Int) - 1 + 1).toNat = j by omega]; exact HBl6.out), HB6⟩, by simp [intOf] <;> omega⟩
      · have hi0 : i0 = -1 := by omega
        subst hi0
        have hbr : b ≤ wr.heap.size := by have := HB.out.size; omega
        have HBl : Hid (Lib.IsBuilder 158 5 b b (Lib.byteCells (Lib.decDigits N)) wr) := Hid.intro (by
          have := HBl.out
          rw [show ((-1 : Int) + 1).toNat = 0 from rfl, Nat.pow_zero, Nat.div_one] at this
          exact this)
        gi_wp2_with (gi_at_call 116; refine stop ?_)
        unfold Stop
        refine (callsIn_wide.2 (Tryz.Builder_String_any b b _ wr HBl.out hbr)).mono ?_
        rintro e w6 ⟨rfl, hb6⟩
        have HB6 := Hid.intro (HB.out.trans hb6)
        gi_wp2
        all_goals (first | go_returns | go_ret | go_end0)
        exact ⟨rfl, by rw [hbs]; exact HB6.out⟩
theorem mString_calls (w : World) (v : Value) (N : Nat) (h : MagAt w v N) (hN : N < B ^ 100000) (htab : Pow10 w) :
    CallsIn Fence.wide 0 Tryz.prog 71 #[v] w fun e w' => e = .returned (.string ⟨(Lib.decDigits N).toArray⟩) ∧ Below w.heap.size w w' := by
  obtain ⟨k, hk, hl⟩ := h
  exact mString_form w v N k hk hl.form hN htab
end Go.Num

namespace Go.Num
open Go.Eng Go.Shelf Go.RowKit Go.Sort Go.Proofs Go.Proofs.YtoamcgjbelhnkaaGreatDoor

def textN (n : Nat) : ByteArray := ⟨(Lib.decDigits n).toArray⟩
theorem textZ_pos {z : Int} (h : 0 ≤ z) : textZ z = textN z.natAbs := by
  unfold textZ textN Lib.itoa
  rw [if_neg (by omega), show z.toNat = z.natAbs by omega]
theorem ba_append (a b : List UInt8) : (⟨a.toArray⟩ : ByteArray) ++ ⟨b.toArray⟩ = ⟨(a ++ b).toArray⟩ := by
  refine ByteArray.ext ?_
  rw [ByteArray.data_append]
  simp
theorem textZ_neg {z : Int} (h : z < 0) : (⟨#[45]⟩ : ByteArray) ++ textN z.natAbs = textZ z := by
  unfold textZ textN Lib.itoa
  rw [if_pos h]
  exact ba_append [45] _
theorem textN_size {n : Nat} (h : n < B ^ 100000) : (textN n).size ≤ 900000 := by
  unfold textN
  rw [bytes_size, Lib.decDigits_length]
  exact nDigits_B h
theorem textZ_size {z : Int} (h : z.natAbs < B ^ 100000) : (textZ z).size ≤ 900001 := by
  by_cases h0 : z < 0
  · rw [← textZ_neg h0, ByteArray.size_append]
    have := textN_size h
    show 1 + _ ≤ _
    omega
  · rw [textZ_pos (by omega)]
    have := textN_size h
    omega
theorem textQ_one {q : Rat} (h : q.den = 1) : textQ q = textZ q.num := by unfold textQ; rw [if_pos h]
theorem textQ_more {q : Rat} (h : q.den ≠ 1) : textZ q.num ++ ⟨#[47]⟩ ++ textN q.den = textQ q := by
  unfold textQ textZ textN
  rw [if_neg h]
  have e1 := ba_append (Lib.itoa q.num) [47]
  have e2 := ba_append (Lib.itoa q.num ++ [47]) (Lib.decDigits q.den)
  rw [show (⟨#[47]⟩ : ByteArray) = ⟨[47].toArray⟩ from rfl, e1, e2, List.append_assoc]
  rfl

set_option maxRecDepth 100000 in
set_option maxHeartbeats 8000000 in
/-- **'Parts'.** -/
theorem parts_calls (w : World) (v : Value) (q : Rat) (h : RatAt w v q) (hq : RatLe q 100000) (htab : Pow10 w) :
    CallsIn Fence.wide 0 Tryz.prog 15 #[v] w fun e w' => e = .returned (.tuple #[.string (textZ q.num), .string (textN q.den)]) ∧ Below w.heap.size w w' := by
  have HR := Hid.intro h
  obtain ⟨vn, vd, rfl, hn, hd⟩ := h
  have HN := Hid.intro hn
  obtain ⟨sg, hsg⟩ : ∃ sg, decide (q.num < 0) = sg := ⟨_, rfl⟩
  have HSG := Hid.intro hsg
  obtain ⟨o1, k1, c1, rfl, _, _⟩ := mag_len hn
  obtain ⟨o2, k2, c2, rfl, _, _⟩ := mag_len hd
  rw [hsg] at HR
  rw [hsg]
  obtain ⟨W1, hW1⟩ : ∃ W, W = w.alloc (.cells #[.bool sg, .slice o1 k1 c1, .slice o2 k2 c2] 25) := ⟨_, rfl⟩
  have HX1 : Hid (Box3 W1 w.heap.size (.bool sg) (.slice o1 k1 c1) (.slice o2 k2 c2)) := Hid.intro (by rw [hW1]; exact box3_new _ _ _ _ _)
  have HB1 : Hid (Below w.heap.size w W1) := Hid.intro (by rw [hW1]; exact alloc_below _ _)
  have HP := Hid.intro hq
  have HTab := Hid.intro htab
  clear hn hd hsg hq htab
  refine callsIn_of_wp Tryz.func15 rfl trivial ?_ rfl
  simp only [Tryz.ntmps15, List.size_toArray, List.length_cons, List.length_nil, Nat.reduceAdd, Nat.reduceSub, Array.replicate_succ, Array.replicate_zero, List.push_toArray, List.append_toArray, List.nil_append, List.cons_append]
  gi_wp2_with (gi_at_call 71; refine stop ?_)
  unfold Stop
  rw [← hW1]
  obtain ⟨g, hg⟩ : ∃ g, w.heap.size = g := ⟨_, rfl⟩
  rw [hg] at HX1
  rw [hg]
  clear hW1
  refine (mString_calls W1 _ _ (HN.out.below HB1.out) HP.out.1 (HTab.out.below HB1.out)).mono ?_
  rintro e w2 ⟨rfl, hb2⟩
  have HX2 := Hid.intro (HX1.out.below hb2)
  have HB2 := Hid.intro (HB1.out.trans (hb2.mono HB1.out.size))
  have y0 := HX2.out.c0
  have y1 := HX2.out.c1
  have y2 := HX2.out.c2
  have HR2 := Hid.intro (HR.out.below HB2.out)
  obtain ⟨S, hS⟩ : ∃ S : ByteArray, (⟨(Lib.decDigits q.num.natAbs).toArray⟩ : ByteArray) = S := ⟨_, rfl⟩
  rw [hS]
  have HS := Hid.intro hS
  have hSsz : S.size ≤ 900000 := by rw [← hS]; exact textN_size HP.out.1
  clear hb2 HX1 HB1 hS
  cases sg with
  | true =>
    have HT : Hid ((⟨#[45]⟩ : ByteArray) ++ S = textZ q.num) := Hid.intro (by rw [← HS.out]; exact textZ_neg (of_decide_eq_true HSG.out))
    gi_wp2_with (gi_at_call 64; refine stop ?_)
    unfold Stop
    refine (bottom_calls w2 _ q HR2.out).mono ?_
    rintro e w3 ⟨v3, rfl, hm3, hb3⟩
    have HM3 := Hid.intro hm3
    have HB3 := Hid.intro (HB2.out.trans (hb3.mono HB2.out.size))
    clear hm3 hb3 HR2 HX2 HB2 y0 y1 y2
    gi_wp2_with (gi_at_call 71; refine stop ?_)
    unfold Stop
    refine (mString_calls w3 _ _ HM3.out HP.out.2 (HTab.out.below HB3.out)).mono ?_
    rintro e w4 ⟨rfl, hb4⟩
    have HB4 := Hid.intro (HB3.out.trans (hb4.mono HB3.out.size))
    rw [HT.out]
    clear hb4 HB3
    gi_wp2
    all_goals (first | go_returns | go_ret2 | go_ret | go_end0)
    exact ⟨rfl, HB4.out⟩
  | false =>
    have HT : Hid (S = textZ q.num) := Hid.intro (by rw [← HS.out]; exact (textZ_pos (by have := of_decide_eq_false HSG.out; omega)).symm)
    gi_wp2_with (gi_at_call 64; refine stop ?_)
    unfold Stop
    refine (bottom_calls w2 _ q HR2.out).mono ?_
    rintro e w3 ⟨v3, rfl, hm3, hb3⟩
    have HM3 := Hid.intro hm3
    have HB3 := Hid.intro (HB2.out.trans (hb3.mono HB2.out.size))
    clear hm3 hb3 HR2 HX2 HB2 y0 y1 y2
    gi_wp2_with (gi_at_call 71; refine stop ?_)
    unfold Stop
    refine (mString_calls w3 _ _ HM3.out HP.out.2 (HTab.out.below HB3.out)).mono ?_
    rintro e w4 ⟨rfl, hb4⟩
    have HB4 := Hid.intro (HB3.out.trans (hb4.mono HB3.out.size))
    rw [HT.out]
    clear hb4 HB3
    gi_wp2
    all_goals (first | go_returns | go_ret2 | go_ret | go_end0)
    exact ⟨rfl, HB4.out⟩

set_option maxRecDepth 100000 in
set_option maxHeartbeats 8000000 in
/-- **'String' of a fraction.** -/
theorem string_calls (w : World) (v : Value) (q : Rat) (h : RatAt w v q) (hq : RatLe q 100000) (htab : Pow10 w) :
    CallsIn Fence.wide 0 Tryz.prog 13 #[v] w fun e w' => e = .returned (.string (textQ q)) ∧ Below w.heap.size w w' := by
  have HR := Hid.intro h
  obtain ⟨vn, vd, rfl, hn, hd⟩ := h
  obtain ⟨sg, hsg⟩ : ∃ sg, decide (q.num < 0) = sg := ⟨_, rfl⟩
  obtain ⟨o1, k1, c1, rfl, _, _⟩ := mag_len hn
  obtain ⟨o2, k2, c2, rfl, hk2, _⟩ := mag_len hd
  have HK2 := Hid.intro hk2
  rw [hsg] at HR
  rw [hsg]
  obtain ⟨W1, hW1⟩ : ∃ W, W = w.alloc (.cells #[.bool sg, .slice o1 k1 c1, .slice o2 k2 c2] 25) := ⟨_, rfl⟩
  have HX1 : Hid (Box3 W1 w.heap.size (.bool sg) (.slice o1 k1 c1) (.slice o2 k2 c2)) := Hid.intro (by rw [hW1]; exact box3_new _ _ _ _ _)
  have HB1 : Hid (Below w.heap.size w W1) := Hid.intro (by rw [hW1]; exact alloc_below _ _)
  have HP := Hid.intro hq
  have HTab := Hid.intro htab
  clear hn hd hsg hq htab hk2
  refine callsIn_of_wp Tryz.func13 rfl trivial ?_ rfl
  simp only [Tryz.ntmps13, List.size_toArray, List.length_cons, List.length_nil, Nat.reduceAdd, Nat.reduceSub, Array.replicate_succ, Array.replicate_zero, List.push_toArray, List.append_toArray, List.nil_append, List.cons_append]
  gi_wp2_with (gi_at_call 15; refine stop ?_)
  unfold Stop
  rw [← hW1]
  obtain ⟨g, hg⟩ : ∃ g, w.heap.size = g := ⟨_, rfl⟩
  rw [hg] at HX1
  rw [hg]
  clear hW1
  refine (parts_calls W1 _ q (HR.out.below HB1.out) HP.out (HTab.out.below HB1.out)).mono ?_
  rintro e w2 ⟨rfl, hb2⟩
  have HX2 := Hid.intro (HX1.out.below hb2)
  have HB2 := Hid.intro (HB1.out.trans (hb2.mono HB1.out.size))
  have y0 := HX2.out.c0
  have y1 := HX2.out.c1
  have y2 := HX2.out.c2
  clear hb2 HX1 HB1
  obtain ⟨Z, hZ⟩ : ∃ Z, textZ q.num = Z := ⟨_, rfl⟩
  obtain ⟨D, hD⟩ : ∃ D, textN q.den = D := ⟨_, rfl⟩
  have hZsz : Z.size ≤ 900001 := by rw [← hZ]; exact textZ_size HP.out.1
  have hDsz : D.size ≤ 900000 := by rw [← hD]; exact textN_size HP.out.2
  have hZ47 : (Z ++ ⟨#[47]⟩ : ByteArray).size = Z.size + 1 := by rw [ByteArray.size_append]; rfl
  rw [hZ, hD]
  by_cases h1 : q.den = 1
  · have hk0 : k2 = 0 := HK2.out.2 (by rw [if_pos h1])
    subst hk0
    have HT := Hid.intro (textQ_one h1)
    rw [hZ] at HT
    clear hZ hD
    gi_wp2
    all_goals (first | go_returns | go_ret2 | go_ret | go_end0)
    exact ⟨by rw [HT.out]; rfl, HB2.out⟩
  · have hk0 : ((k2 : Int) == 0) = false := beq_false_of_ne (by
      intro h
      have := HK2.out.1 (by omega)
      rw [if_neg h1] at this
      exact q.den_nz this)
    have HT := Hid.intro (textQ_more h1)
    rw [hZ, hD] at HT
    clear hZ hD
    gi_wp2
    all_goals (first | go_returns | go_ret2 | go_ret | go_end0)
    exact ⟨by rw [← HT.out]; rfl, HB2.out⟩
end Go.Num
