/-
  A function whose second region is walked by hand, and the rest run by the machine. A power: the closure of 'Ruin' by the machine, for each e
  Conditions: see each statement.
-/
import Derived.Test.YtepakfjilnpodaaGreatDoorPAAU
import Derived.Test.YtepakfjilnpodaaGreatDoorPAAT
import Derived.Deep.MidRow
namespace Go.Num
open Go.Eng Go.Shelf Go.RowKit Go.Proofs Go.Proofs.YtepakfjilnpodaaGreatDoor

def leafR1 (q : Rat) : Leaf rs1 where
  sh := .agg 3
  I := fun v w => RatAt w v q
  stable := fun _ _ _ hk h => h.kept1 hk
  ok := (leafR q).ok
  det := fun h => by cases h
def leafI1 (n : Int) : Leaf rs1 where
  sh := .one
  I := fun v _ => v = .int .i64 n
  stable := fun _ _ _ _ h => h
  ok := by rintro v w rfl; rfl
  det := fun h => by cases h
abbrev TI1 (w0 : World) (env : List (Leaf rs1)) (L : List Entry) : Prop := ToldIn Tryz.prog w0.heap.size w0 (Gs env) (lookT L)
abbrev TM1 (w0 : World) (env : List (Leaf rs1)) (L : List EntryM) : Prop := ToldM Tryz.prog w0.heap.size w0 (Gs env) (lookM L)

theorem prodL_replicate (r : Rat) : ∀ n, prodL (List.replicate n r) = pw r n
  | 0 => rfl
  | n + 1 => by rw [List.replicate_succ', prodL_snoc, prodL_replicate r n]; rfl
/-- A row of items of the machine is a row of fractions. -/
def reps (k : Nat) : Nat → AT
  | 0 => .nil
  | n + 1 => .cons (tg k) (reps k n)
/-- What the pieces of a list of fractions are. -/
def RatsT (env : List (Leaf rs1)) : AT → List Rat → Prop
  | .nil, l => l = []
  | .cons t r, l => ∃ k q s, t = tg k ∧ l = q :: s ∧ env[k]? = some (leafR1 q) ∧ RatsT env r s
  | _, _ => False
theorem rats_items {env : List (Leaf rs1)} {w : World} {b : Nat} : ∀ (ts : AT) (l : List Rat) (o n : Nat), RatsT env ts l → ItemsAt (Gs env) w b o ts n → n = l.length ∧ ∀ (i : Nat) (q : Rat), l[i]? = some q → ∃ x0 x1 x2, w.cell? ⟨b, o + i * 3, none⟩ = some x0 ∧ w.cell? ⟨b, o + i * 3 + 1, none⟩ = some x1 ∧ w.cell? ⟨b, o + i * 3 + 2, none⟩ = some x2 ∧ RatAt w (.agg #[x0, x1, x2]) q
  | .nil, l, o, n, h, hi => by
    have h : l = [] := h
    have hi : n = 0 := hi
    subst h; subst hi
    exact ⟨rfl, fun i q hq => by simp at hq⟩
  | .cons t r, l, o, n, h, hi => by
    obtain ⟨k, q, s, rfl, rfl, he, hr⟩ := h
    obtain ⟨m, x0, x1, x2, rfl, c0, c1, c2, hp, hm⟩ := hi
    obtain ⟨hn, hall⟩ := rats_items r s (o + 3) m hr hm
    refine ⟨by rw [hn]; rfl, fun i q' hq => ?_⟩
    match i, hq with
    | 0, hq =>
      have hq : q = q' := by simpa using hq
      subst hq
      refine ⟨x0, x1, x2, c0, c1, c2, ?_⟩
      have hp : Leaf.at env (.leaf k) (.agg #[x0, x1, x2]) w := hp
      unfold Leaf.at at hp
      simp only [he] at hp
      exact hp
    | i + 1, hq =>
      obtain ⟨y0, y1, y2, d0, d1, d2, hy⟩ := hall i q' (by simpa using hq)
      refine ⟨y0, y1, y2, ?_, ?_, ?_, hy⟩
      · rwa [show o + (i + 1) * 3 = o + 3 + i * 3 by omega]
      · rwa [show o + (i + 1) * 3 = o + 3 + i * 3 by omega]
      · rwa [show o + (i + 1) * 3 = o + 3 + i * 3 by omega]
  | .tag _, _, _, _, h, _ | .val _, _, _, _, h, _ | .agg _, _, _, _, h, _ | .fn _ _ _, _, _, _, h, _ => h.elim
theorem row_am {env : List (Leaf rs1)} {w : World} {ts : AT} {l : List Rat} {v : Value} (hts : RatsT env ts l) (h9 : l.length ≤ 1000000000) (h : AMOK (Gs env) (.row ts) v w) : RowC w v l := by
  obtain ⟨b, o, n, c, rfl, hb, hi⟩ := h
  obtain ⟨rfl, hall⟩ := rats_items ts l o n hts hi
  refine ⟨_, c, rfl, h9, fun i q hq => ⟨⟨b, o, none⟩, rfl, hb, ?_⟩⟩
  obtain ⟨x0, x1, x2, c0, c1, c2, hr⟩ := hall i q hq
  have e : (⟨b, o, none⟩ : Addr).add (i * 3) = ⟨b, o + i * 3, none⟩ := by unfold Addr.add; split <;> simp_all
  exact ⟨x0, x1, x2, by rw [e]; exact c0, by rw [e]; exact c1, by rw [e]; exact c2, hr⟩

/-! Told: a sum, a product of a row. -/
section
variable {w0 : World} {env : List (Leaf rs1)} {r : List EntryM}
theorem leaf_at1 {k : Nat} {q : Rat} (hk : env[k]? = some (leafR1 q)) {v : Value} {w : World} (h : RatAt w v q) : PieceOK (Gs env) (tg k) v w := by
  show Leaf.at env (.leaf k) v w
  unfold Leaf.at
  simp only [hk]
  exact h
theorem leaf_un1 {k : Nat} {q : Rat} (hk : env[k]? = some (leafR1 q)) {v : Value} {w : World} (h : PieceOK (Gs env) (tg k) v w) : RatAt w v q := by
  have h : Leaf.at env (.leaf k) v w := h
  unfold Leaf.at at h
  simp only [hk] at h
  exact h
theorem toldM_prod {ts : AT} {l : List Rat} {k : Nat} {L : Nat} (hts : RatsT env ts l) (h9 : l.length ≤ 1000000000) (hk : env[k]? = some (leafR1 (prodL l))) (hl : ∀ q ∈ l, RatLe q L) (hp : ∀ k, RatLe (prodL (l.take k)) L) (hs : ∀ k, Kept1 (prodL (l.take k)) = true) (hL : L ≤ 100000) (htab : Pow10 w0) (K : TM1 w0 env r) :
    TM1 w0 env ((68, [.row ts], A1 (tg k)) :: r) := by
  refine toldM_1 ⟨_, Tryz.func68, rfl⟩ (fun w v hw hv => ?_) K
  refine (product_calls w v l L (row_am hts h9 hv) hl hp hs hL (htab.below hw)).mono ?_
  rintro e w' ⟨v', rfl, hr, hb⟩
  exact ⟨_, rfl, leaf_at1 hk hr, hb⟩
theorem toldM_sum {ts : AT} {l : List Rat} {k : Nat} {L : Nat} (hts : RatsT env ts l) (h9 : l.length ≤ 1000000000) (hk : env[k]? = some (leafR1 (sumL l))) (hl : ∀ q ∈ l, RatLe q L) (hp : ∀ k, RatLe (sumL (l.take k)) L) (hs : ∀ k, Kept1 (sumL (l.take k)) = true) (hL : L ≤ 100000) (htab : Pow10 w0) (K : TM1 w0 env r) :
    TM1 w0 env ((65, [.row ts], A1 (tg k)) :: r) := by
  refine toldM_1 ⟨_, Tryz.func65, rfl⟩ (fun w v hw hv => ?_) K
  refine (sum_calls w v l L (row_am hts h9 hv) hl hp hs hL (htab.below hw)).mono ?_
  rintro e w' ⟨v', rfl, hr, hb⟩
  exact ⟨_, rfl, leaf_at1 hk hr, hb⟩
end
theorem rats_reps {env : List (Leaf rs1)} {k : Nat} {q : Rat} (hk : env[k]? = some (leafR1 q)) : ∀ n, RatsT env (reps k n) (List.replicate n q)
  | 0 => rfl
  | n + 1 => ⟨k, q, _, rfl, rfl, hk, rats_reps hk n⟩
def powO (n : Nat) : FuncId → AV → AH → Option (AV × AH) := orO (oracleM (clsL [shR, shR]) (lookM [(68, [.row (reps 0 n)], A1 (tg 1))])) (oracle (clsL [shR, shR]) (lookT []))
noncomputable def powCheck (n : Nat) : Bool := match runS Tryz.prog (clsL [shR, shR]) (powO n) rs1 3000 69 (A1 (.val (.sc (.int .i64 (.ofNat n))))) (.leaf 0) with
  | some (.tag (.leaf 1)) => true
  | _ => false
theorem pow_all : (List.range 31).all powCheck = true := by kernel_rfl
theorem pow_run {n : Nat} (hn : n ≤ 30) : runS Tryz.prog (clsL [shR, shR]) (powO n) rs1 3000 69 (A1 (.val (.sc (.int .i64 (.ofNat n))))) (.leaf 0) = some (tg 1) := by
  have h := List.all_eq_true.1 pow_all n (List.mem_range.2 (by omega))
  unfold powCheck at h
  split at h
  · rename_i e; exact e
  · cases h
/-- **The closure of powers.** -/
theorem power_calls (w : World) (b : Nat) (r : Rat) (n L : Nat) {x0 x1 x2 : Value} (c0 : w.cell? ⟨b, 0, none⟩ = some x0) (c1 : w.cell? ⟨b, 1, none⟩ = some x1) (c2 : w.cell? ⟨b, 2, none⟩ = some x2) (h : RatAt w (.agg #[x0, x1, x2]) r) (hn : n ≤ 30)
    (hl : RatLe r L) (hp : ∀ k, k ≤ n → RatLe (pw r k) L) (hs : ∀ k, k ≤ n → Kept1 (pw r k) = true) (hL : L ≤ 100000) (htab : Pow10 w) :
    CallsIn Fence.wide 0 Tryz.prog 69 #[.int .i64 n, .pointer (some ⟨b, 0, none⟩)] w fun e w' => ∃ v', e = .returned v' ∧ RatAt w' v' (pw r n) ∧ Below w.heap.size w w' := by
  obtain ⟨arr, te, fz, hb, a0⟩ := Go.Sort.cells_of_cell? c0
  have a1 : arr[1]? = some x1 := by
    obtain ⟨arr', _, _, hb', a⟩ := Go.Sort.cells_of_cell? c1
    rw [hb] at hb'
    cases hb'
    exact a
  have a2 : arr[2]? = some x2 := by
    obtain ⟨arr', _, _, hb', a⟩ := Go.Sort.cells_of_cell? c2
    rw [hb] at hb'
    cases hb'
    exact a
  have htk : ∀ k, (List.replicate n r).take k = List.replicate (min k n) r := fun k => by rw [List.take_replicate]
  have hM : TM1 w [leafR1 r, leafR1 (pw r n)] [(68, [.row (reps 0 n)], A1 (tg 1))] := by
    refine toldM_prod (L := L) (rats_reps (q := r) rfl n) (by simp; omega) (by rw [prodL_replicate]; rfl) ?_ ?_ ?_ hL htab toldM_nil
    · intro q hq
      rw [List.eq_of_mem_replicate hq]; exact hl
    · intro k
      rw [htk, prodL_replicate]; exact hp _ (by omega)
    · intro k
      rw [htk, prodL_replicate]; exact hs _ (by omega)
  have hO : CallsOK Tryz.prog w.heap.size w (Gs [leafR1 r, leafR1 (pw r n)]) (powO n) := orO_ok (oracleM_ok (shapedS rfl) hM) (oracle_ok (shapedS rfl) told_nil)
  have hone : ∀ x ∈ [x0, x1, x2], x.oneCell' = true := by
    obtain ⟨xs, e, _, h1⟩ := (leafR r).ok _ w h
    cases e
    exact h1
  have hx : PiecesOK (Gs [leafR1 r, leafR1 (pw r n)]) (A1 (.val (.sc (.int .i64 (.ofNat n))))) [.int .i64 n] w := ps1 rfl
  refine (runS_sound (G := Gs [leafR1 r, leafR1 (pw r n)]) follows namesOK (shapedS rfl) rfl hO (pow_run hn) hx (t := .leaf 0) h hone hb a0 a1 a2).mono ?_
  rintro e w' ⟨x, rfl, hx, hB⟩
  exact ⟨x, rfl, leaf_un1 (k := 1) rfl hx, hB⟩
end Go.Num
namespace Go.Eng
open Go.RowKit

/-- What slots hold, as the machine has it. -/
def slotAMs (cls : Tg → Sh) (H : AH) (T : Tr AV) : List Tmp → Option (List AM)
  | [] => some []
  | t :: r => match T.get t with
    | some v => (match amOne cls H v, slotAMs cls H T r with
      | some m, some ms => some (m :: ms)
      | _, _ => none)
    | none => none
def noneFrom (T : Tr AV) (lo nt : Nat) : Bool := (List.range nt).all fun j => Nat.blt j lo || (match T.get j with | none => true | some _ => false)

noncomputable def runMid (P : Program) (cls : Tg → Sh) (O : FuncId → AV → AH → Option (AV × AH)) (D : List FuncId) (res : List TypeId) (n : Nat) (fid : FuncId) (fn : Func) (r0 rest : Code) (ts : AT) (lo : Nat) (slots : List Tmp) (ams : List AM) (rs : AT) : Bool :=
  match (layAT cls ts (bare res) fun args H => bif Nat.ble args.len fn.ntmps then setAll fn.ntmps .nil (List.range args.len) args fun T =>
    match (cb P [] O D n).code none fid r0 { T, nt := fn.ntmps, ds := [] } H with
    | some (.normal, a, H) => (match a.ds, slotAMs cls H a.T slots with
      | [], some ms => bif beqAMs ms ams && Nat.beq a.nt fn.ntmps && noneFrom a.T lo fn.ntmps then
          match (cb P [] O D n).code none fid rest a H with
          | some (.ret, a2, H2) => endsOk H2 a2.ds fun H3 => match resultsOf P H3 a2 fn.results.toList with
            | some (.cons _ .nil) => none
            | some vs => (match (atOf cls H3 vs).2 with
              | some us => bif us.beq rs then some (vs, H3) else none
              | none => none)
            | none => none
          | _ => none
        else none
      | _, _ => none)
    | _ => none else none : Option (AV × AH)) with
  | some _ => true
  | none => false

section
variable {P : Program}
theorem slotAMs_sound {cls : Tg → Sh} {G : Sett} {B : Nat} {w0 : World} (hs : Shaped G cls) {μ : Mu} {H : AH} {w : World} (h : Rep P B w0 G μ H w) {nt : Nat} {T : Tr AV} {tmps : Array Value} (hT : TR μ nt T tmps) : ∀ (slots : List Tmp) (ms : List AM), slotAMs cls H T slots = some ms → AMsOK G w ms (slots.map fun j => tmps.getD j undef)
  | [], ms, hm => by
    simp only [slotAMs, Option.some.injEq] at hm
    subst hm
    rfl
  | t :: r, ms, hm => by
    simp only [slotAMs] at hm
    split at hm
    · rename_i v hv
      split at hm
      · rename_i m ms' h1 h2
        cases hm
        exact ⟨_, _, rfl, amOne_sound hs h h1 (hT.2 t v hv), slotAMs_sound hs h hT r ms' h2⟩
      · cases hm
    · cases hm
theorem noneFrom_get {T : Tr AV} {lo nt j : Nat} (h : noneFrom T lo nt = true) (hj : j < nt) (hl : lo ≤ j) : T.get j = none := by
  unfold noneFrom at h
  have := List.all_eq_true.1 h j (List.mem_range.2 hj)
  rw [Bool.or_eq_true] at this
  rcases this with q | q
  · have := Nat.le_of_ble_eq_true q
    have : j < lo := this
    omega
  · split at q
    · rename_i e; exact e
    · cases q

/-- **The second region by hand, the rest by the machine.** -/
theorem mid_script {res : List TypeId} {env : List (Leaf res)} {S : List Sh} {w : World} (hm : P.follows .mixedOrders = true) (hN : NamesOK P) (hS : env.map (·.sh) = S) {O : FuncId → AV → AH → Option (AV × AH)} (hO : CallsOK P w.heap.size w (Gs env) O) {D : List FuncId} (hD : ∀ g ∈ D, StillFn P g)
    {n : Nat} {fid : FuncId} {fn : Func} {r0 r1 rest : Code} (hfn : P.funcs[fid]? = some fn) (hbody : fn.body = some (.seq r0 (.seq r1 rest))) {ts rs : AT} {lo : Nat} {slots : List Tmp} {ams : List AM}
    (h : runMid P (clsL S) O D res n fid fn r0 rest ts lo slots ams rs = true) {xs : Array Value} (hx : PiecesOK (Gs env) ts xs.toList w)
    (hmid : ∀ (c : CAct) (w1 : World), Below w.heap.size w w1 → c.defers = [] → c.tmps.size = fn.ntmps → AMsOK (Gs env) w1 ams (slots.map fun j => c.tmps.getD j undef) →
      r1.wpIn Fence.wide 0 P (fun e c' w2 => e = .normal ∧ c'.defers = [] ∧ c'.tmps.size = c.tmps.size ∧ (∀ j, j < lo → c'.tmps.getD j undef = c.tmps.getD j undef) ∧ Below w1.heap.size w1 w2) c w1) :
    CallsIn Fence.wide 0 P fid xs w fun e w' => ∃ x, e = .returned x ∧ PackOK (Gs env) rs x w' ∧ Below w.heap.size w w' := by
  unfold runMid at h
  split at h
  · rename_i r hr
    obtain ⟨args, μ0, H0, k1, k2, _, k4⟩ := (lay_rep (P := P) (B := w.heap.size) (w0 := w) (shapedS hS) ts _ _ _ _ (bare_rep (G := Gs env) rfl w) hr).2 _ hx
    cases hle : Nat.ble args.len fn.ntmps with
    | false => rw [hle] at k1; cases k1
    | true =>
      rw [hle] at k1
      have hle := Nat.le_of_ble_eq_true hle
      simp only [cond_true, List.range_eq_range'] at k1
      obtain ⟨T, h1, h2⟩ := setAll_range _ _ _ _ _ k1
      have hlen := k4.len
      rw [Array.length_toList] at hlen
      refine callsIn_of_wp_marks hfn hbody trivial ?_
      have hT : TR μ0 fn.ntmps T (xs ++ Array.replicate (fn.ntmps - xs.size) undef) := by
        refine ⟨by simp; omega, ?_⟩
        intro t u q
        rcases h2 t u q with ⟨i, rfl, hi⟩ | q
        · obtain ⟨y, hy, hyv⟩ := k4.nth hi
          have hy' : xs[i]? = some y := by simpa using hy
          have hlt : i < xs.size := (Array.getElem?_eq_some_iff.1 hy').1
          rw [Nat.zero_add, Array.getD_eq_getD_getElem?, Array.getElem?_append_left hlt, hy']
          exact hyv
        · simp [Tr.get] at q
      have hK := (cb_ok (P := P) (B := w.heap.size) (w0 := w) (G := Gs env) hm hN hO hD n).2.2
      split at h1
      · rename_i a H1 hcode
        split at h1
        · rename_i ms hds hms
          cases hb : beqAMs ms ams && Nat.beq a.nt fn.ntmps && noneFrom a.T lo fn.ntmps with
          | false => rw [hb] at h1; cases h1
          | true =>
            rw [hb] at h1
            simp only [Bool.and_eq_true] at hb
            obtain ⟨⟨hb1, hb2⟩, hb3⟩ := hb
            have hb1 := eq_of_beqAMs hb1
            subst hb1
            have hnt := Nat.eq_of_beq_eq_true hb2
            simp only [cond_true] at h1
            split at h1
            · rename_i a2 H2 hcode2
              have hc := hK none fid r0 _ H0 .normal a H1 hcode μ0 w { tmps := xs ++ Array.replicate (fn.ntmps - xs.size) undef, defers := [] } none rfl k2 ⟨hT, rfl⟩
              refine wpIn_seq (wpIn_mono (F := Fence.wide) hc ?_)
              rintro e c1 w1 ⟨hxr, μ1, hext1, hact1, hrep1⟩
              cases e <;> first | exact hxr.elim | skip
              have hdef : c1.defers = [] := by
                have := hact1.2
                rw [hds] at this
                exact this
              have hsz1 : c1.tmps.size = fn.ntmps := by rw [hact1.1.1, hnt]
              refine wpIn_seq (wpIn_mono (F := Fence.wide) (hmid c1 w1 hrep1.below hdef hsz1 (slotAMs_sound (shapedS hS) hrep1 hact1.1 slots ms hms)) ?_)
              rintro e c2 w2 ⟨rfl, q1, q2, q3, q5⟩
              have hrep2 := hrep1.onto q5
              have hact2 : ActRel P μ1 a c2 := by
                refine ⟨⟨by rw [q2]; exact hact1.1.1, fun t v hv => ?_⟩, by rw [hds, q1]; rfl⟩
                by_cases hlt : t < lo
                · rw [q3 t hlt]; exact hact1.1.2 t v hv
                · by_cases ht : t < fn.ntmps
                  · rw [noneFrom_get hb3 ht (by omega)] at hv
                    cases hv
                  · have := hact1.1.2 t v hv
                    have e1 : c1.tmps.getD t undef = undef := by rw [Array.getD_eq_getD_getElem?, Array.getElem?_eq_none (by omega)]; rfl
                    have e2 : c2.tmps.getD t undef = undef := by rw [Array.getD_eq_getD_getElem?, Array.getElem?_eq_none (by omega)]; rfl
                    rw [e2]
                    rw [e1] at this
                    exact this
              have hc2 := hK none fid rest a H1 .ret a2 H2 hcode2 μ1 w2 c2 none rfl hrep2 hact2
              refine wpIn_mono (F := Fence.wide) hc2 ?_
              rintro e c3 w3 ⟨hxr3, μ3, hext3, hact3, hrep3⟩
              cases e <;> first | exact hxr3.elim | skip
              refine ends_leave a2.ds H2 _ _ h1 μ3 w3 c3.defers hrep3 hact3.2 ?_
              intro H4 w4 hn hrep4 hk
              split at hk
              · cases hk
              · rename_i vs hne hres
                split at hk
                · rename_i us hus
                  cases hbe : us.beq rs with
                  | false => rw [hbe] at hk; cases hk
                  | true =>
                    have hue := AT.eq_of_beq hbe
                    subst hue
                    obtain ⟨ys, g1, g2⟩ := results_run hrep4 hact3.1 hres
                    have hpk := (atOf_sound (shapedS hS) hrep4 vs).2 _ hus _ g2
                    refine ⟨.tuple ys.toArray, ?_, .tuple ys.toArray, rfl, ?_, hrep4.below⟩
                    · have hsz : ¬ ys.length = 1 := by
                        intro q
                        cases vs with
                        | cons u t =>
                          obtain ⟨y, r, rfl, g3, g4⟩ := g2
                          have hr : r = [] := by apply List.length_eq_zero_iff.1; simpa using q
                          subst hr
                          cases t with
                          | nil => exact hne u rfl
                          | cons u' t' => obtain ⟨_, _, q', _⟩ := g4; cases q'
                          | _ => exact g4.elim
                        | nil => have : ys = [] := g2; subst this; simp at q
                        | _ => exact g2.elim
                      rw [results_eq]
                      simp [Array.mapM_eq_mapM_toList, g1, hsz]
                    · unfold PackOK
                      split
                      · rename_i t
                        obtain ⟨y, r, rfl, g3, g4⟩ := hpk
                        have g4 : r = [] := g4
                        subst g4
                        exfalso
                        cases vs with
                        | cons u t =>
                          obtain ⟨y2, r2, e2, _, g5⟩ := g2
                          cases e2
                          cases t with
                          | nil => exact hne u rfl
                          | cons u' t' => obtain ⟨_, _, q', _⟩ := g5; cases q'
                          | _ => exact g5.elim
                        | nil => have : [y] = [] := g2; cases this
                        | _ => exact g2.elim
                      · exact ⟨ys.toArray, rfl, hpk⟩
                · cases hk
              · cases hk
            · cases h1
        · cases h1
      · cases h1
  · cases h
end
end Go.Eng
namespace Go.Eng
open Go.RowKit Go.Num Go.Proofs Go.Proofs.YtepakfjilnpodaaGreatDoor

def putAll (a : CAct) : List (Tmp × Value) → CAct
  | [] => a
  | (t, v) :: r => (putAll a r).put (some t) v
def lookO (a : CAct) : List (Tmp × Value) → Tmp → Value
  | [], t => a.tmps.getD t undef
  | (s, v) :: r, t => bif Nat.beq s t then v else lookO a r t
def look (a : CAct) (ov : List (Tmp × Value)) : Operand → Value
  | .tmp t => lookO a ov t
  | .const v => v
  | .global g => .pointer (some ⟨g, 0, none⟩)
  | .func f => .func (.func f) #[] #[]
def keysOk (nt : Nat) (ov : List (Tmp × Value)) : Prop := ∀ p ∈ ov, p.1 < nt
theorem putAll_size (a : CAct) : ∀ ov, (putAll a ov).tmps.size = a.tmps.size
  | [] => rfl
  | (t, v) :: r => by rw [putAll, put_size]; exact putAll_size a r
theorem putAll_tmp (a : CAct) : ∀ ov, keysOk a.tmps.size ov → ∀ t, (putAll a ov).tmps.getD t undef = lookO a ov t
  | [], _, t => rfl
  | (s, v) :: r, h, t => by
    have ih := putAll_tmp a r (fun p hp => h p (by simp [hp])) t
    show ((putAll a r).put (some s) v).tmps.getD t undef = bif Nat.beq s t then v else lookO a r t
    cases e : Nat.beq s t with
    | true =>
      have := Nat.eq_of_beq_eq_true e
      subst this
      exact put_same (by rw [putAll_size]; exact h (s, v) (by simp))
    | false =>
      rw [put_other (by intro q; cases q; rw [Nat.beq_refl] at e; cases e)]
      exact ih
theorem putAll_eval (a : CAct) (ov : List (Tmp × Value)) (h : keysOk a.tmps.size ov) : (putAll a ov).eval = look a ov := by
  funext x
  cases x with
  | tmp t => exact putAll_tmp a ov h t
  | _ => rfl

/-- The walk; what was written lies apart. -/
def OV (K : World → Prop) (ks : List Nat) (P : Program) (nt : Nat) (ops : Array Oper) (bs bars : List Nat) (Q : CAct → World → Prop) (r : List Nat) (a : CAct) (ov : List (Tmp × Value)) (w : World) : Prop :=
  a.tmps.size = nt → keysOk nt ov → OWK K ks P none ops bs bars Q r (putAll a ov) w

section
variable {K : World → Prop} {ks : List Nat} {P : Program} {nt : Nat} {ops : Array Oper} {bs bars r : List Nat} {i : Nat} {a : CAct} {ov : List (Tmp × Value)} {w : World} {Q : CAct → World → Prop} {o : Oper}
theorem keysOk.cons {d : Tmp} {v : Value} (h : keysOk nt ov) (hd : Nat.blt d nt = true) : keysOk nt ((d, v) :: ov) := by
  intro p hp
  rcases List.mem_cons.1 hp with rfl | hp
  · exact (blt_iff _ _).1 hd
  · exact h p hp
theorem OV.read {d : Tmp} (v : Value) (ho : ops[i]? = some o) (hdst : o.dst = some d) (hb : bars.contains i = false) (hd : Nat.blt d nt = true)
    (hrun : ∀ w', (Below w.heap.size w w' ∨ (ks.contains i = true ∧ K w')) → (execOp (look a ov) o).run P w' = .ok (.value v) w') (h : OV K ks P nt ops bs bars Q r a ((d, v) :: ov) w) : OV K ks P nt ops bs bars Q (i :: r) a ov w := by
  intro hn hk
  refine ⟨o, ho, .inr ⟨hb, v, fun w' hw' => ?_, ?_⟩⟩
  · rw [putAll_eval a ov (by rw [hn]; exact hk)]; exact hrun w' hw'
  · rw [hdst]; exact h hn (hk.cons hd)
theorem OV.mv {x : Operand} {v : Value} {d : Tmp} {ty : TypeId} {ps : String} {af : Array Edge} (ho : ops[i]? = some { op := .move x, dst := some d, type := ty, pos := ps, after := af, guard := none }) (hb : bars.contains i = false) (hd : Nat.blt d nt = true)
    (hx : look a ov x = v) (h : OV K ks P nt ops bs bars Q r a ((d, v) :: ov) w) : OV K ks P nt ops bs bars Q (i :: r) a ov w :=
  OV.read v ho rfl hb hd (fun w' _ => by subst hx; rfl) h
theorem OV.asg {x : Operand} {v : Value} {d : Tmp} {ty : TypeId} {ps : String} {af : Array Edge} (ho : ops[i]? = some { op := .assign x, dst := some d, type := ty, pos := ps, after := af, guard := none }) (hb : bars.contains i = false) (hd : Nat.blt d nt = true)
    (hx : look a ov x = v) (h : OV K ks P nt ops bs bars Q r a ((d, v) :: ov) w) : OV K ks P nt ops bs bars Q (i :: r) a ov w :=
  OV.read v ho rfl hb hd (fun w' _ => by subst hx; rfl) h
/-- An item's address. -/
def ItemAt (P : Program) (t : TypeId) (sz : Nat) : Prop := ∀ (p : Addr) (len cap k : Nat) (w : World), k < len → (Instr.indexAt t (.slice (some p) len cap) (.int .i64 (k : Int))).run P w = .ok (.pointer (some (p.add (k * sz)))) w
theorem itemAt_of {t e : TypeId} {inf : TypeInfo} {sz : Nat} (hu : P.underlying t = some (.slice e)) (hi : P.info? e = some inf) (hs : inf.size = sz) : ItemAt P t sz := by
  intro p len cap k w hk
  have hk' : (k : Int) < (len : Int) := by omega
  subst hs
  simp [Instr.indexAt, asIntOf, hu, hk', hk, underlying, sizeOf, typeInfo, hi, Sem.run_bind, Sem.run_pure, Result.andThen, go_sem]
theorem OV.idx {t : TypeId} {x y : Operand} {p : Addr} {len cap k sz : Nat} {d : Tmp} {ty : TypeId} {ps : String} {af : Array Edge} (hI : ItemAt P t sz) (hk : k < len) (ho : ops[i]? = some { op := .indexAddr t x y, dst := some d, type := ty, pos := ps, after := af, guard := none }) (hb : bars.contains i = false) (hd : Nat.blt d nt = true)
    (hx : look a ov x = .slice (some p) len cap) (hy : look a ov y = .int .i64 (k : Int)) (h : OV K ks P nt ops bs bars Q r a ((d, .pointer (some (p.add (k * sz)))) :: ov) w) : OV K ks P nt ops bs bars Q (i :: r) a ov w :=
  OV.read _ ho rfl hb hd (fun w' _ => by simp [execOp, hx, hy, hI p len cap k w' hk]) h
/-- A field's address, wherever the struct lies. -/
def FieldIn (P : Program) (s : TypeId) (f off : Nat) : Prop := ∀ (p : Addr) w, (Instr.fieldAt s (.pointer (some p)) f).run P w = .ok (.pointer (some (p.add off))) w
theorem fieldIn_of {s : TypeId} {f off : Nat} (h : (match P.underlying s with | some (.struct fs) => (match fs[f]? with | some fd => Nat.beq fd.offset off && (match P.info? fd.type with | some i => !Nat.beq i.size 0 | none => false) | none => false) | _ => false) = true) : FieldIn P s f off := by
  intro p w
  split at h
  · rename_i fs h1
    split at h
    · rename_i fd h2
      rw [Bool.and_eq_true] at h
      have h3 := Nat.eq_of_beq_eq_true h.1
      have h4 := h.2
      split at h4
      · rename_i inf h5
        have h6 : inf.size ≠ 0 := by
          intro e
          rw [e] at h4
          cases h4
        subst h3
        simp [Instr.fieldAt, run_underlying h1, h2, Instr.sureAddr, fieldPlace, sizeOf, typeInfo, h5, h6]
      · cases h4
    · cases h
  · cases h
theorem OV.fld {s : TypeId} {x : Operand} {f off : Nat} {p : Addr} {d : Tmp} {ty : TypeId} {ps : String} {af : Array Edge} (hF : FieldIn P s f off) (ho : ops[i]? = some { op := .fieldAddr s x f, dst := some d, type := ty, pos := ps, after := af, guard := none }) (hb : bars.contains i = false) (hd : Nat.blt d nt = true)
    (hx : look a ov x = .pointer (some p)) (h : OV K ks P nt ops bs bars Q r a ((d, .pointer (some (p.add off))) :: ov) w) : OV K ks P nt ops bs bars Q (i :: r) a ov w :=
  OV.read _ ho rfl hb hd (fun w' _ => by simp [execOp, hx, hF p w']) h
/-- One cell is read. -/
theorem OV.ld {t : TypeId} {x : Operand} {p : Addr} {v : Value} {d : Tmp} {ty : TypeId} {ps : String} {af : Array Edge} (hL : LoadOne P t) (hc : w.cell? p = some v) (hks : ks.contains i = false) (ho : ops[i]? = some { op := .load t x, dst := some d, type := ty, pos := ps, after := af, guard := none }) (hb : bars.contains i = false) (hd : Nat.blt d nt = true)
    (hx : look a ov x = .pointer (some p)) (h : OV K ks P nt ops bs bars Q r a ((d, v) :: ov) w) : OV K ks P nt ops bs bars Q (i :: r) a ov w :=
  OV.read _ ho rfl hb hd (fun w' hb' => by
    rcases hb' with hb' | ⟨q, _⟩
    · have hp : p.block < w.heap.size := World.block_lt_of_cell? _ _ hc
      simp [execOp, hx, hL p v w' ((hb'.cell hp).trans hc)]
    · rw [hks] at q; cases q) h
/-- One cell is read that stays in all worlds of the kind. -/
theorem OV.ldK {t : TypeId} {x : Operand} {p : Addr} {v : Value} {d : Tmp} {ty : TypeId} {ps : String} {af : Array Edge} (hL : LoadOne P t) (hc : w.cell? p = some v) (hK : ∀ w', K w' → w'.cell? p = some v) (ho : ops[i]? = some { op := .load t x, dst := some d, type := ty, pos := ps, after := af, guard := none }) (hb : bars.contains i = false) (hd : Nat.blt d nt = true)
    (hx : look a ov x = .pointer (some p)) (h : OV K ks P nt ops bs bars Q r a ((d, v) :: ov) w) : OV K ks P nt ops bs bars Q (i :: r) a ov w :=
  OV.read _ ho rfl hb hd (fun w' hb' => by
    have hp : p.block < w.heap.size := World.block_lt_of_cell? _ _ hc
    have : w'.cell? p = some v := hb'.elim (fun q => (q.cell hp).trans hc) (fun q => hK w' q.2)
    simp [execOp, hx, hL p v w' this]) h
/-- A struct is read. -/
def LoadMany (P : Program) (t : TypeId) (n : Nat) : Prop := ∀ (p : Addr) (cs : List Value) w, cs.length = n → (∀ j v, cs[j]? = some v → World.cell? w (p.add j) = some v) → (Instr.loadAt t (.pointer (some p))).run P w = .ok (.agg cs.toArray) w
theorem loadMany_of {t : TypeId} {n : Nat} (h : (match P.underlying t with | some (.struct _) => true | _ => false) = true) (hi : (P.info? t).map (·.size) = some n) : LoadMany P t n := by
  intro p cs w hn hc
  cases hu : P.underlying t with
  | none => rw [hu] at h; cases h
  | some d =>
    rw [hu] at h
    cases d with
    | struct fs =>
      have hl : (loadCells p cs.length).run P w = .ok cs.toArray w := run_loadCells_list (P := P) w p cs hc
      cases hq : P.info? t with
      | none => simp [hq] at hi
      | some inf =>
        have hs : inf.size = n := by simpa [hq] using hi
        have hagg : (isAgg t).run P w = .ok true w := by
          unfold isAgg
          rw [Sem.run_bind, run_underlying hu w]
          rfl
        simp [Instr.loadAt, Instr.sureAddr, loadVar, Sem.run_bind, hagg, sizeOf, typeInfo, hq, hs, ← hn, hl]
    | _ => cases h
theorem OV.ldn {t : TypeId} {x : Operand} {p : Addr} {n : Nat} (cs : List Value) {d : Tmp} {ty : TypeId} {ps : String} {af : Array Edge} (hL : LoadMany P t n) (hc : ∀ j v, cs[j]? = some v → w.cell? (p.add j) = some v) (hks : ks.contains i = false) (ho : ops[i]? = some { op := .load t x, dst := some d, type := ty, pos := ps, after := af, guard := none }) (hb : bars.contains i = false) (hd : Nat.blt d nt = true)
    (hn : cs.length = n) (h0 : 0 < n) (hx : look a ov x = .pointer (some p)) (h : OV K ks P nt ops bs bars Q r a ((d, .agg cs.toArray) :: ov) w) : OV K ks P nt ops bs bars Q (i :: r) a ov w :=
  OV.read _ ho rfl hb hd (fun w' hb' => by
    rcases hb' with hb' | ⟨q, _⟩
    · have hp : p.block < w.heap.size := by
        obtain ⟨v, hv⟩ : ∃ v, cs[0]? = some v := ⟨_, List.getElem?_eq_getElem (by omega)⟩
        have := World.block_lt_of_cell? _ _ (hc 0 v hv)
        rwa [add_block] at this
      simp [execOp, hx, hL p cs w' hn (fun j v hj => (hb'.cell (p := p.add j) (by rw [add_block]; exact hp)).trans (hc j v hj))]
    · rw [hks] at q; cases q) h
/-- A row's length. -/
theorem OV.len {t e : TypeId} {x : Operand} {p : Option Addr} {len cap : Nat} {d : Tmp} {ty : TypeId} {ps : String} {af : Array Edge} (hu : P.underlying t = some (.slice e)) (ho : ops[i]? = some { op := .call { callee := .builtin .len, args := #[x], argTypes := #[t] }, dst := some d, type := ty, pos := ps, after := af, guard := none }) (hb : bars.contains i = false) (hd : Nat.blt d nt = true)
    (hx : look a ov x = .slice p len cap) (h : OV K ks P nt ops bs bars Q r a ((d, .int .i64 (len : Int)) :: ov) w) : OV K ks P nt ops bs bars Q (i :: r) a ov w :=
  OV.read _ ho rfl hb hd (fun w' _ => by
    simp [execOp, resolve, invoke, builtin, hx, Builtin.len_, hu, underlying, Sem.run_bind, Sem.run_pure, Result.andThen, go_sem, goInt]) h
/-- A call. -/
theorem OWK.call {f : FuncId} {fn : Func} {xs : Array Operand} {ts : Array TypeId} {args : List Value} {d : Option Tmp} {ty : TypeId} {ps : String} {af : Array Edge} (ho : ops[i]? = some { op := .call { callee := .value (.func f), args := xs, argTypes := ts }, dst := d, type := ty, pos := ps, after := af, guard := none }) (hb : bars.contains i = true)
    (hfn : P.funcs[f]? = some fn) (hbody : fn.body.isSome = true) (hN : NamesOK P) (ha : xs.toList.map a.eval = args)
    (h : CallsIn Fence.wide 0 P f args.toArray w fun e w' => ∃ v, e = .returned v ∧ ((lastK bs ks ops.size i = true ∧ K w') ∨ Below w.heap.size w w') ∧ OWK K ks P none ops bs bars Q r (a.put d v) w') : OWK K ks P none ops bs bars Q (i :: r) a w := by
  refine ⟨_, ho, .inl ⟨hb, .inl ⟨f, args.toArray, ?_, h⟩⟩⟩
  have ha' : xs.map a.eval = args.toArray := by subst ha; apply Array.ext'; rw [Array.toList_map]
  rw [← ha']
  have hbn : fn.body ≠ none := by intro q; rw [q] at hbody; simp at hbody
  have hev : a.eval (.func f) = .func (.func f) #[] #[] := rfl
  unfold execOp
  simp only [resolve, hev, Deferred.ofValue, Sem.run_bind, Sem.run_pure, Result.andThen_ok, invoke, callFunc, run_program, hfn, hN f fn hfn hbody, Bool.false_eq_true, if_false]
  have : fn.body.isNone = false := by cases hq : fn.body <;> simp_all
  rw [this]
  simp
/-- A call. -/
theorem OV.call {f : FuncId} {fn : Func} {xs : Array Operand} {ts : Array TypeId} (args : List Value) {d : Tmp} {ty : TypeId} {ps : String} {af : Array Edge} {R : Value → World → Prop} {f' : FuncId} (hfn : P.funcs[f]? = some fn) (hbody : fn.body.isSome = true) (hN : NamesOK P)
    (ho : ops[i]? = some { op := .call { callee := .value (.func f), args := xs, argTypes := ts }, dst := some d, type := ty, pos := ps, after := af, guard := none }) (hb : bars.contains i = true) (hd : Nat.blt d nt = true)
    (ha : xs.toList.map (look a ov) = args) (hf : f = f') (hcall : CallsIn Fence.wide 0 P f' args.toArray w fun e w' => ∃ v, e = .returned v ∧ R v w' ∧ Below w.heap.size w w')
    (h : ∀ v w', R v w' → Below w.heap.size w w' → OV K ks P nt ops bs bars Q r a ((d, v) :: ov) w') : OV K ks P nt ops bs bars Q (i :: r) a ov w := by
  intro hn hk
  subst hf
  refine OWK.call ho hb hfn hbody hN (args := args) (by rw [putAll_eval a ov (by rw [hn]; exact hk)]; exact ha) (hcall.mono ?_)
  rintro e w' ⟨v, rfl, hR, hB⟩
  exact ⟨v, rfl, .inr hB, h v w' hR hB hn (hk.cons hd)⟩
/-- A call that changes what lies there, and waits for all else. -/
theorem OV.callL {f : FuncId} {fn : Func} {xs : Array Operand} {ts : Array TypeId} (args : List Value) {d : Tmp} {ty : TypeId} {ps : String} {af : Array Edge} {R : Value → World → Prop} {f' : FuncId} (hfn : P.funcs[f]? = some fn) (hbody : fn.body.isSome = true) (hN : NamesOK P)
    (ho : ops[i]? = some { op := .call { callee := .value (.func f), args := xs, argTypes := ts }, dst := some d, type := ty, pos := ps, after := af, guard := none }) (hb : bars.contains i = true) (hd : Nat.blt d nt = true)
    (ha : xs.toList.map (look a ov) = args) (hf : f = f') (hl : lastK bs ks ops.size i = true) (hcall : CallsIn Fence.wide 0 P f' args.toArray w fun e w' => ∃ v, e = .returned v ∧ R v w' ∧ K w')
    (h : ∀ v w', R v w' → OV K ks P nt ops bs bars Q r a ((d, v) :: ov) w') : OV K ks P nt ops bs bars Q (i :: r) a ov w := by
  intro hn hk
  subst hf
  refine OWK.call ho hb hfn hbody hN (args := args) (by rw [putAll_eval a ov (by rw [hn]; exact hk)]; exact ha) (hcall.mono ?_)
  rintro e w' ⟨v, rfl, hR, hK⟩
  exact ⟨v, rfl, .inl ⟨hl, hK⟩, h v w' hR hn (hk.cons hd)⟩
/-- A row of one item is made. -/
theorem OV.put1 {t : TypeId} {x : Operand} {v : Value} {w' : World} {d : Tmp} {ty : TypeId} {ps : String} {af : Array Edge} (hrun : (Instr.buildSlice t 1 #[(0, v)]).run P w = .ok (.slice (some ⟨w.heap.size, 0, none⟩) 1 1) w') (hB : Below w.heap.size w w') (ho : ops[i]? = some { op := .buildSlice t 1 #[(0, x)], dst := some d, type := ty, pos := ps, after := af, guard := none }) (hb : bars.contains i = true) (hd : Nat.blt d nt = true)
    (hx : look a ov x = v) (h : OV K ks P nt ops bs bars Q r a ((d, .slice (some ⟨w.heap.size, 0, none⟩) 1 1) :: ov) w') : OV K ks P nt ops bs bars Q (i :: r) a ov w := by
  intro hn hk
  exact ⟨_, ho, .inl ⟨hb, .inr ⟨w', _, .inl (by simp [execOp, putAll_eval a ov (by rw [hn]; exact hk), hx, hrun]), .inr hB, h hn (hk.cons hd)⟩⟩⟩
/-- Items are put behind a row. -/
theorem OV.app {t : TypeId} {s x : Operand} {v y v' : Value} {w' : World} {d : Tmp} {ty : TypeId} {ps : String} {af : Array Edge} (hKw : K w') (hrun : (Builtin.append_ #[t, t] ty #[v, y]).run P w = .ok v' w') (ho : ops[i]? = some { op := .call { callee := Callee.builtin Builtin.append, args := #[s, x], argTypes := #[t, t] }, dst := some d, type := ty, pos := ps, after := af, guard := none }) (hb : bars.contains i = true) (hd : Nat.blt d nt = true)
    (hl : lastK bs ks ops.size i = true) (hs : look a ov s = v) (hx : look a ov x = y) (h : OV K ks P nt ops bs bars Q r a ((d, v') :: ov) w') : OV K ks P nt ops bs bars Q (i :: r) a ov w := by
  intro hn hk
  have e := putAll_eval a ov (by rw [hn]; exact hk)
  exact ⟨_, ho, .inl ⟨hb, .inr ⟨w', v', .inl (by simp [execOp, resolve, invoke, builtin, e, hs, hx, hrun, Result.andThen]), .inl ⟨hl, hKw⟩, h hn (hk.cons hd)⟩⟩⟩
/-- A store that waits for all else. -/
theorem OV.st {t : TypeId} {x y : Operand} {p v : Value} {w' : World} {ty : TypeId} {ps : String} {af : Array Edge} (hKw : K w') (hrun : (Instr.storeAt t p v).run P w = .ok () w') (ho : ops[i]? = some { op := .store t x y, dst := none, type := ty, pos := ps, after := af, guard := none }) (hb : bars.contains i = true) (hl : lastK bs ks ops.size i = true)
    (hx : look a ov x = p) (hy : look a ov y = v) (h : OV K ks P nt ops bs bars Q r a ov w') : OV K ks P nt ops bs bars Q (i :: r) a ov w := by
  intro hn hk
  have e := putAll_eval a ov (by rw [hn]; exact hk)
  exact ⟨_, ho, .inl ⟨hb, .inr ⟨w', undef, .inr ⟨by simp [execOp, e, hx, hy, hrun], rfl⟩, .inl ⟨hl, hKw⟩, h hn hk⟩⟩⟩
theorem OV.done (h : Q (putAll a ov) w) : OV K ks P nt ops bs bars Q [] a ov w := fun _ _ => h
/-- **A region that draws its order and calls.** -/
theorem wpIn_region_ovk (K : World → Prop) (ks : List Nat) (hKB : ∀ w w', K w → Below w.heap.size w w' → K w') {id : Nat} {l : List Oper} (bars ord : List Nat) (bs : List Nat) {a : CAct} {w : World} {ro : Option Nat} {Q : Exit → CAct → World → Prop} (hm : P.follows .mixedOrders = true) (hro : ro = none)
    (nt : Nat) (hnt : a.tmps.size = nt) (hc : ordCheck l bars ord nt = true) (hbs : masks l [] = bs) (hK : K w.drew) (h : OV K ks P nt l.toArray bs bars (fun a' w' => Q .normal a' w') ord a [] w.drew) : (Code.region id l.toArray true).wpIn (Fz ro) 0 P Q a w := by
  subst hro
  exact wpIn_region_owk ks hKB bars ord bs hm nt hnt hc hbs hK (h hnt (fun p hp => by cases hp))
theorem wpIn_region_ov {id : Nat} {l : List Oper} (bars ord : List Nat) (bs : List Nat) {a : CAct} {w : World} {ro : Option Nat} {Q : Exit → CAct → World → Prop} (hm : P.follows .mixedOrders = true) (hro : ro = none)
    (nt : Nat) (hnt : a.tmps.size = nt) (hc : ordCheck l bars ord nt = true) (hbs : masks l [] = bs) (h : OV (fun _ => True) [] P nt l.toArray bs bars (fun a' w' => Q .normal a' w') ord a [] w.drew) : (Code.region id l.toArray true).wpIn (Fz ro) 0 P Q a w :=
  wpIn_region_ovk (fun _ => True) [] (fun _ _ _ _ => trivial) bars ord bs hm hro nt hnt hc hbs trivial h
end
end Go.Eng
