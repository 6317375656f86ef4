/-
  What 'joined' of the reference answers.
  Conditions: the edges' places lie below the number of places; their cells are known.
-/
import Derived.Test.YtjcmalmcijpnnaaDoorChkH
import Derived.Test.YtjcmalmcijpnnaaDoorChkM
namespace Go.Eng
open Go.RowKit Go.Proofs Go.Proofs.YtjcmalmcijpnnaaDoor

theorem wpListIn_make_full {F : Fence} {n : Nat} {P : Program} (w : World) {ops : Array Oper} {rest : List Oper} {o : Oper} {a : CAct} {Q : Exit → CAct → World → Prop}
    (hg : o.guard = none) (l c : Operand) (t : TypeId) (hop : o.op = Op.makeSlice t l c)
    (base : Nat) (e : TypeId) (i : TypeInfo) (z : Value) (size : Nat) (h1 : P.underlying t = some (.slice e)) (h2 : P.info? e = some i) (h3 : i.zero = some z) (h4 : i.size = size)
    (kl kc : IntKind) (L C : Int) (m : Nat) (hl : a.eval l = .int kl L) (hc : a.eval c = .int kc C) (hL : L = (m : Int)) (hC : C = (m : Int)) (b2 : i.bytes * m ≤ 281474976710656) (b3 : m ≤ maxLen) (b4 : base ≤ w.heap.size)
    (hK : ∀ w', w'.ownsRow base e size (.slice (some ⟨w.heap.size, 0, none⟩) m m) m (madeCells z.cells (m * size)).toList → w.grownBy w' none → wpListIn F n P ops Q rest (a.put o.dst (.slice (some ⟨w.heap.size, 0, none⟩) m m)) w') :
    wpListIn F n P ops Q (o :: rest) a w := by
  refine wpListIn_plain hg fun K hK' => ?_
  obtain ⟨w', hrun, r1, r2⟩ := run_make_full (P := P) w base t e i z size h1 h2 h3 h4 kl kc m b2 b3 b4
  subst hL
  subst hC
  unfold Oper.wpIn
  refine ⟨?_, ?_⟩
  · simp [Oper.about, hop]
  · rw [Oper.semAt_plain F _ _ (by rw [hop]; intro c hc'; cases hc')]
    simp [execOp, hop, hl, hc, hrun, Result.andThen]
    exact hK' _ _ (hK w' r1 r2)

/-- A row of cells of the call's own. -/
def ArrAt (w : World) (g n : Nat) (f : Nat → Value) : Prop := ∀ i, i < n → w.cell? ⟨g, i, none⟩ = some (f i) ∧ w.frozen? ⟨g, i, none⟩ = false

theorem ArrAt.set {w : World} {g n : Nat} {f : Nat → Value} (h : ArrAt w g n f) {i : Nat} (hi : i < n) (v : Value) : ArrAt (w.setCell ⟨g, i, none⟩ v) g n (fun j => if j = i then v else f j) := by
  intro j hj
  refine ⟨?_, by rw [World.frozen?_setCell]; exact (h j hj).2⟩
  by_cases e : j = i
  · subst e
    simp only [if_true]
    exact World.cell?_setCell_same _ _ _ (h j hj).1
  · simp only [if_neg e]
    rw [World.cell?_setCell_other _ _ _ _ (by intro q; injection q; omega)]
    exact (h j hj).1
theorem ArrAt.congr {w : World} {g n : Nat} {f f' : Nat → Value} (h : ArrAt w g n f) (e : ∀ i, i < n → f i = f' i) : ArrAt w g n f' := fun i hi => by rw [← e i hi]; exact h i hi
theorem ArrAt.below {w w' : World} {g n B : Nat} {f : Nat → Value} (h : ArrAt w g n f) (hg : g < B) (hb : Below B w w') : ArrAt w' g n f := fun i hi => by
  rw [hb.cell (p := ⟨g, i, none⟩) hg, hb.frozen (p := ⟨g, i, none⟩) hg]; exact h i hi
theorem ArrAt.of_row {w : World} {base : Nat} {e : TypeId} {g n cap : Nat} {xs : List Value} (h : w.ownsRow base e 1 (.slice (some ⟨g, 0, none⟩) n cap) n xs) {f : Nat → Value} (hf : ∀ i, i < n → xs[i]? = some (f i)) : ArrAt w g n f :=
  fun i hi => ⟨(h.cellAt i (by omega)).trans (hf i hi), h.frozenAt i⟩

theorem t4_info : Tryd.prog.info? 4 = some Tryd.t4 := by kernel_rfl
theorem u77 : Tryd.prog.underlying 77 = some (.slice 4) := by kernel_rfl
theorem t4_zero : Tryd.t4.zero = some (.bool false) := by kernel_rfl
theorem t4_size : Tryd.t4.size = 1 := by kernel_rfl
theorem t4_bytes : Tryd.t4.bytes = 1 := by kernel_rfl
theorem made_bools {n i : Nat} (hi : i < n) : (madeCells #[Value.bool false] n).toList[i]? = some (.bool false) := by
  simp [madeCells, hi, Nat.mod_one]

/-- The pairs as the model has them. -/
def ints (qs : List (Nat × Nat)) : List (Int × Int) := qs.map fun q => ((q.1 : Int), (q.2 : Int))
theorem ints_fst (qs : List (Nat × Nat)) (i : Nat) : ((ints qs).getD i (0, 0)).1 = (((qs.getD i (0, 0)).1 : Nat) : Int) := by
  simp only [ints, List.getD_eq_getElem?_getD, List.getElem?_map]
  cases qs[i]? <;> rfl
theorem ints_snd (qs : List (Nat × Nat)) (i : Nat) : ((ints qs).getD i (0, 0)).2 = (((qs.getD i (0, 0)).2 : Nat) : Int) := by
  simp only [ints, List.getD_eq_getElem?_getD, List.getElem?_map]
  cases qs[i]? <;> rfl
theorem ints_len (qs : List (Nat × Nat)) : (ints qs).length = qs.length := by simp [ints]

/-- A slice of pairs of places: its cells, where there are any. -/
def EdgesAt (w : World) (o : Option Addr) (qs : List (Nat × Nat)) : Prop :=
  0 < qs.length → ∃ a : Addr, o = some a ∧ a.block < w.heap.size ∧ ∀ i, i < qs.length → w.cell? (a.add (i * 2)) = some (.int .i64 ((qs.getD i (0, 0)).1 : Nat)) ∧ w.cell? (a.add (i * 2 + 1)) = some (.int .i64 ((qs.getD i (0, 0)).2 : Nat))

theorem PairsAt.edges {w : World} {v : Value} {qs : List (Nat × Nat)} (h : PairsAt w v (ints qs)) : ∃ o cap, v = .slice o qs.length cap ∧ EdgesAt w o qs := by
  rcases h with ⟨rfl, h⟩ | ⟨a, cap, rfl, hcap, hl, ha, hc⟩
  · have : qs = [] := by cases qs with | nil => rfl | cons => cases h
    subst this
    exact ⟨none, 0, rfl, fun h => by simp at h⟩
  · rw [ints_len] at *
    refine ⟨some a, cap, rfl, fun h0 => ⟨a, rfl, ha h0, fun i hi => ⟨?_, ?_⟩⟩⟩
    · rw [hc _ (by omega), Nat.mul_comm, flat_fst, ints_fst]
    · rw [hc _ (by omega), Nat.mul_comm, flat_snd, ints_snd]
theorem EdgesAt.below {w w' : World} {o : Option Addr} {qs : List (Nat × Nat)} (h : EdgesAt w o qs) (hb : Below w.heap.size w w') : EdgesAt w' o qs := fun h0 => by
  obtain ⟨a, rfl, ha, hc⟩ := h h0
  exact ⟨a, rfl, Nat.lt_of_lt_of_le ha hb.size, fun i hi => ⟨(hb.cell (p := a.add _) (by rw [add_block]; exact ha)).trans (hc i hi).1, (hb.cell (p := a.add _) (by rw [add_block]; exact ha)).trans (hc i hi).2⟩⟩

def firstOf (but : Int) : Nat := if but = 0 then 1 else 0
def seenBy (S : Nat → Bool) : Nat → Value := fun i => .bool (S i)

theorem oneEdge_next {but : Int} {qs : List (Nat × Nat)} {k x y : Nat} {S0 S : Nat → Bool} (hlt : k < qs.length) (hx : (qs.getD k (0, 0)).1 = x) (hy : (qs.getD k (0, 0)).2 = y) (hS : (qs.take k).foldl (oneEdge but) S0 = S) :
    (qs.take (k + 1)).foldl (oneEdge but) S0 = oneEdge but S (x, y) := by
  rw [List.take_succ_eq_append_getElem hlt, List.foldl_append, hS]
  have : qs[k] = (x, y) := by
    rw [List.getD_eq_getElem?_getD, List.getElem?_eq_getElem hlt] at hx hy
    exact Prod.ext hx hy
  rw [this]; rfl

theorem edge_no {w : World} {g N x y : Nat} {but : Int} {S : Nat → Bool} (h : ArrAt w g N (seenBy S)) (hn : ¬ (((x : Int) ≠ but ∧ (y : Int) ≠ but) ∧ (S x = true ∨ S y = true))) : ArrAt w g N (seenBy (oneEdge but S (x, y))) := by
  have : oneEdge but S (x, y) = S := if_neg hn
  rw [this]; exact h
theorem edge_yes {w : World} {g N x y : Nat} {but : Int} {S : Nat → Bool} (h : ArrAt w g N (seenBy S)) (hx : x < N) (hy : y < N) (hn : ((x : Int) ≠ but ∧ (y : Int) ≠ but) ∧ (S x = true ∨ S y = true)) : ArrAt ((w.setCell ⟨g, x, none⟩ (.bool true)).setCell ⟨g, y, none⟩ (.bool true)) g N (seenBy (oneEdge but S (x, y))) := by
  have : oneEdge but S (x, y) = fun i => i == x || i == y || S i := if_pos hn
  rw [this]
  refine ((h.set hx _).set hy _).congr fun i _ => ?_
  unfold seenBy
  by_cases e1 : i = y
  · simp [e1]
  · by_cases e2 : i = x
    · simp [e1, e2]
    · simp [e1, e2]

theorem ArrAt.first {w : World} {g n : Nat} (h : ArrAt w g n fun _ => .bool false) {i : Nat} (hi : i < n) : ArrAt (w.setCell ⟨g, i, none⟩ (.bool true)) g n (seenBy (fun j => j == i)) :=
  (h.set hi _).congr fun j _ => by
    unfold seenBy
    by_cases e : j = i
    · simp [e]
    · simp [e]

set_option maxRecDepth 100000 in
set_option maxHeartbeats 8000000 in
theorem joined_walk (w : World) (N : Nat) (hN : 2 ≤ N ∧ N ≤ 9) (o : Option Addr) (cap : Nat) (qs : List (Nat × Nat)) (hv : EdgesAt w o qs) (hl : qs.length ≤ 1000) (hE : ∀ i, i < qs.length → (qs.getD i (0, 0)).1 < N ∧ (qs.getD i (0, 0)).2 < N) (but : Int) :
    CallsIn Fence.wide 0 Tryd.prog 62 #[.int .i64 (N : Int), .slice o qs.length cap, .int .i64 but] w fun e w' => Says (∀ i : Nat, i < N → (i : Int) ≠ but → rounds qs but (fun j => j == firstOf but) N i = true) e ∧ Below w.heap.size w w' := by
  have HV := Hid.intro hv
  have HE := Hid.intro hE
  clear hv hE
  have FF : firstOf but < N := by unfold firstOf; split <;> omega
  have hcase : ((but == 0) = true ∧ Hid (firstOf but = 1)) ∨ ((but == 0) = false ∧ Hid (firstOf but = 0)) := by
    by_cases h : but = 0
    · exact .inl ⟨by simp [h], by unfold firstOf; exact if_pos h⟩
    · exact .inr ⟨by simp [h], by unfold firstOf; exact if_neg h⟩
  rcases hcase with ⟨hbut, HF⟩ | ⟨hbut, HF⟩
  all_goals
    refine callsIn_of_wp Tryd.func62 rfl trivial ?_ rfl
    simp only [Tryd.ntmps62, List.size_toArray, List.length_cons, List.length_nil, Nat.reduceAdd, Nat.reduceSub, Array.replicate_succ, Array.replicate_zero, List.push_toArray, List.append_toArray, List.nil_append, List.cons_append]
    gi_wp2_with (gi_at_make; refine wpListIn_make_full _ rfl _ _ _ rfl w.heap.size 4 Tryd.t4 _ 1 u77 t4_info t4_zero t4_size _ _ _ _ N rfl rfl rfl rfl (by rw [t4_bytes]; omega) (by unfold maxLen; omega) (by omega) ?_)
    intro w1 hown hgrow
    have HB1 : Hid (Below w.heap.size w w1) := (Below.refl _ w).grown hgrow (Nat.le_refl _) (fun _ h => by cases h)
    have HA1 : Hid (ArrAt w1 w.heap.size N fun _ => .bool false) := ArrAt.of_row hown fun i hi => made_bools hi
    have q0 := HA1.out 0 (by omega)
    have q1 := HA1.out 1 (by omega)
    have c0 := q0.1
    have c1 := q1.1
    have f0 := q0.2
    have f1 := q1.2
    clear hown hgrow q0 q1
    gi_wp2
    all_goals first | (exfalso; omega) | skip
    clear c0 c1 f0 f1
    have hfirst := HF.out
    have HA3 := Hid.intro (HA1.out.first FF)
    have HB2 := Hid.intro (HB1.out.setCell (p := ⟨w.heap.size, firstOf but, none⟩) (Nat.le_refl _) (.bool true))
    rw [hfirst] at HA3 HB2
    clear HA1 HB1 hbut
    clear hfirst
    generalize hw2 : World.setCell _ _ _ = w2 at *
    clear hw2
    gi_loopw [9] (fun i wr => ∃ (r : Nat), r ≤ N ∧ i = .int .i64 (r : Int) ∧ Hid (Below w.heap.size w wr) ∧ Hid (ArrAt wr w.heap.size N (seenBy (rounds qs but (fun j => j == firstOf but) r)))) (fun i _ => N - (intOf i).toNat)
    case atStart => exact ⟨0, by omega, rfl, HB2.out, by have := HA3.out; rw [← HF.out] at this; exact this⟩
    case round =>
      obtain ⟨r, hr, rfl, HB, HA⟩ := hrel
      clear HB2 HA3
      by_cases hrN : r < N
      · gi_wp2
        gi_loopw [10] (fun i wr => ∃ (k : Nat), k ≤ qs.length ∧ i = .int .i64 (k : Int) ∧ Hid (Below w.heap.size w wr) ∧ Hid (ArrAt wr w.heap.size N (seenBy ((qs.take k).foldl (oneEdge but) (rounds qs but (fun j => j == firstOf but) r))))) (fun i _ => qs.length - (intOf i).toNat)
        case atStart => exact ⟨0, by omega, rfl, HB.out, HA.out⟩
        case round =>
          obtain ⟨k, hk, rfl, HBk, HAk⟩ := hrel
          by_cases hlt : k < qs.length
          · obtain ⟨a, rfl, ha, hc⟩ := HV.out (by omega)
            obtain ⟨hx, hy⟩ := HE.out k hlt
            have g0 := (HBk.out.cell (p := a.add (k * 2)) (by rw [add_block]; exact ha)).trans (hc k hlt).1
            have g1 := (HBk.out.cell (p := a.add (k * 2 + 1)) (by rw [add_block]; exact ha)).trans (hc k hlt).2
            rw [← add_add_one] at g1
            obtain ⟨x, hxe⟩ : ∃ x, (qs.getD k (0, 0)).1 = x := ⟨_, rfl⟩
            obtain ⟨y, hye⟩ : ∃ y, (qs.getD k (0, 0)).2 = y := ⟨_, rfl⟩
            rw [hxe] at g0 hx
            rw [hye] at g1 hy
            have HX := Hid.intro hxe
            have HY := Hid.intro hye
            obtain ⟨S, hS⟩ : ∃ S, (qs.take k).foldl (oneEdge but) (rounds qs but (fun j => j == firstOf but) r) = S := ⟨_, rfl⟩
            rw [hS] at HAk
            have HS := Hid.intro hS
            have kx := HAk.out x hx
            have ky := HAk.out y hy
            have kx0 := kx.1
            have kx1 := kx.2
            have ky0 := ky.1
            have ky1 := ky.2
            have kyy := (HAk.out.set hx (.bool true) y hy).1
            unfold seenBy at kx0 ky0 kyy
            obtain ⟨v, kyy⟩ : ∃ v, (wr.setCell ⟨w.heap.size, x, none⟩ (.bool true)).cell? ⟨w.heap.size, y, none⟩ = some v := ⟨_, kyy⟩
            have HE2 := Hid.intro (oneEdge_next (but := but) hlt HX.out HY.out HS.out)
            clear hc hxe hye hS kx ky
            gi_wp2
            gi_region
            gi_wp2
            all_goals
              refine ⟨⟨k + 1, by omega, by go_num, ?_, ?_⟩, by simp [intOf]; omega⟩
            all_goals first
              | exact HBk.out.drew
              | exact ((HBk.out.setCell (p := ⟨w.heap.size, x, none⟩) (Nat.le_refl _) _).setCell (p := ⟨w.heap.size, y, none⟩) (Nat.le_refl _) _).drew
              | skip
            all_goals
              rw [HE2.out]
              first
                | exact edge_no HAk.out (by rintro ⟨⟨h1, h2⟩, h3⟩; simp_all)
                | exact edge_yes HAk.out hx hy (by simp_all)
          · gi_wp2
            case roundEnd => exact ⟨⟨r + 1, by omega, by go_num, HBk.out, by
              have := HAk.out
              rw [List.take_of_length_le (by omega)] at this
              exact this⟩, by simp [intOf]; omega⟩
      · have hrn : r = N := by omega
        subst hrn
        gi_wp2
        gi_loop [13] (fun i => ∃ (j : Nat), j ≤ r ∧ i = .int .i64 (j : Int) ∧ Hid (∀ i : Nat, i < j → (i : Int) ≠ but → rounds qs but (fun j => j == firstOf but) r i = true)) (fun i => r - (intOf i).toNat)
        case atStart => exact ⟨0, by omega, rfl, fun i h => by omega⟩
        case round =>
          obtain ⟨j, hj, rfl, HJ⟩ := hrel
          by_cases hjr : j < r
          · have kx := HA.out j hjr
            have kx0 := kx.1
            unfold seenBy at kx0
            clear kx
            gi_wp2
            case roundEnd =>
              have hb : (j : Int) = but := by assumption
              refine ⟨⟨j + 1, by omega, congrArg (Value.int .i64) (by omega), fun i hi hne => HJ.out i (by omega) hne⟩, by simp [intOf]; omega⟩
            case roundEnd =>
              have hb : ¬ (j : Int) = but := by assumption
              have h2 : ((j : Int) != but) = false ∨ (!rounds qs but (fun j => j == firstOf but) r j) = false := by assumption
              have h3 : rounds qs but (fun j => j == firstOf but) r j = true := by
                rcases h2 with h2 | h2
                · simp at h2; omega
                · simpa using h2
              refine ⟨⟨j + 1, by omega, congrArg (Value.int .i64) (by omega), fun i hi hne => ?_⟩, by simp [intOf]; omega⟩
              rcases Nat.lt_or_ge i j with q | q
              · exact HJ.out i q hne
              · have : i = j := by omega
                subst this; exact h3
            all_goals (first | go_returns | go_ret | go_end0)
            have hb : ¬ (j : Int) = but := by assumption
            have h2 : ((j : Int) != but) = true ∧ (!rounds qs but (fun j => j == firstOf but) r j) = true := by assumption
            exact ⟨Says.no (fun q => by have := q j hjr hb; rw [this] at h2; simp at h2) rfl, HB.out⟩
          · gi_wp2
            all_goals (first | go_returns | go_ret | go_end0)
            all_goals exact ⟨Says.yes (fun i hi => HJ.out i (by omega)) rfl, HB.out⟩
end Go.Eng
