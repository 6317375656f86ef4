/-
  The abstract machine's memory, its operations, its code and its calls, and that a run of it is one of the model.
  Conditions: none.
-/
import Derived.Test.YtoamcgjbelhnkaaGreatDoorEngX
import Derived.Laws.MakeOwn
import Derived.Laws.AppendOwn
import Derived.DefersIn

namespace Go.Eng
open Go.RowKit

def Mk.obj : Mk → Nat → AObj
  | .cells e cs, i => .cells i 0 e cs
  | .map kt, _ => .map kt .nil

section
variable {P : Program} {B : Nat} {w0 : World} {G : Sett} {μ : Mu} {H : AH} {w : World}

theorem range_cells (A : Array Value) (hs : 0 < A.size) : ∀ n, (List.range (n * A.size)).map (fun i => A[i % A.size]!) = (List.replicate n A.toList).flatten
  | 0 => by simp
  | n + 1 => by
    have ih := range_cells A hs n
    rw [show (n + 1) * A.size = A.size + n * A.size from by rw [Nat.add_mul]; omega, List.range_add, List.map_append, List.map_map]
    have e1 : (List.range A.size).map (fun i => A[i % A.size]!) = A.toList := by
      apply List.ext_getElem
      · simp
      · intro i h1 h2
        have hi : i < A.size := by simpa using h1
        simp [Nat.mod_eq_of_lt hi, hi]
    have e2 : (List.range (n * A.size)).map ((fun i => A[i % A.size]!) ∘ fun x => A.size + x) = (List.replicate n A.toList).flatten := by
      rw [← ih]
      apply List.map_congr_left
      intro i _
      simp
    rw [e1, e2, List.replicate_succ, List.flatten_cons]

theorem made_LR {z : AV} {A : Array Value} (hz : LR μ z A.toList) (hs : 0 < A.size) (n m : Nat) (hm : m = n * A.size) : LR μ (AV.rep n z) ((Array.range m).map (A[· % A.size]!)).toList := by
  subst hm
  rw [Array.toList_map, Array.toList_range, range_cells A hs]
  exact LR.rep hz n

theorem fits_cells {R : List TypeId} {e : TypeId} {cs : AV} {arr : Array Value} (hr : R.contains e = false) (hL : LR μ cs arr.toList) (i : Nat) : Fits P R μ ((Mk.cells e cs).obj i) (.cells arr e) arr.size where
  nopq := by intro t h; cases h
  free := by intro _ _ _ h; cases h; exact hr
  cells := by
    intro fam ver e' cs' he
    cases he
    have := hL.len
    rw [Array.length_toList] at this
    refine ⟨arr, _, rfl, rfl, by omega, ?_⟩
    rw [List.take_of_length_le (by simp; omega)]
    exact hL
  map := by intro kt es he; cases he
  loop := by intro _ _ _ _ _ _ _ _ _ he; cases he
  defd := by intro _ he; cases he

theorem fits_map {R : List TypeId} (kt : TypeId) (i N : Nat) : Fits P R μ ((Mk.map kt).obj i) (.map #[] 0) N where
  nopq := by intro t h; cases h
  free := by intro _ _ _ h; cases h
  cells := by intro _ _ _ _ he; cases he
  map := by intro kt' es he; cases he; exact ⟨#[], 0, rfl, rfl⟩
  loop := by intro _ _ _ _ _ _ _ _ _ he; cases he
  defd := by intro _ he; cases he

theorem fillParts_len {ρ : Env} {pl : Nat → Option (Nat × Nat)} : ∀ {ps : List (Nat × Operand)} {a b : AV}, fillParts pl ρ a ps = some b → b.len = a.len
  | [], a, b, q => by simp [fillParts] at q; rw [q]
  | (i, x) :: r, a, b, q => by
    simp only [fillParts] at q
    split at q
    · rename_i off n v hp hx
      cases hb : Nat.beq v.cells.len n with
      | false => rw [hb] at q; simp at q
      | true =>
        rw [hb] at q
        simp only [cond_true] at q
        split at q
        · rename_i c hc
          rw [fillParts_len q, put_len hc]
        · simp at q
    · simp at q
theorem rep_len {z : AV} (h : z.isList = true) : ∀ n, (AV.rep n z).len = n * z.len
  | 0 => by simp [AV.rep, AV.len]
  | n + 1 => by rw [AV.rep, len_app h, rep_len h n, Nat.add_mul]; omega

theorem alloc_sound {ρ : Env} {ρc : Operand → Value} {o : Oper} (hρ : ∀ x ∈ o.op.operands, ∀ v, ρ x = some v → VR μ v (ρc x)) {mk : Mk} {f : Nat → AV} {R : List TypeId} (ha : allocOf P ρ o.op = some (mk, f)) (hR : mk.bad R = false) (w : World) :
    ∃ obj N x, (execOp ρc o).run P w = .ok (.value x) (w.alloc obj) ∧ (∀ i, Fits P R μ (mk.obj i) obj N) ∧ ∀ (ν : Mu) i, ν i = some (w.heap.size, N) → VR ν (f i) x := by
  obtain ⟨dst, op, type, pos, after, guard⟩ := o
  simp only at hρ ha
  cases op with
  | alloc e =>
    simp only [allocOf, Option.map_eq_some_iff] at ha
    obtain ⟨z, hz, ha⟩ := ha
    cases ha
    obtain ⟨zi, zx, hz1, hz2, hz3, hz4⟩ := zero_of μ hz
    refine ⟨.cells zx.cells e, zx.cells.size, .pointer (some ⟨w.heap.size, 0, none⟩), ?_, fun i => fits_cells hR hz3.cells i, fun ν i hν => ⟨_, _, hν, rfl⟩⟩
    simp [execOp, Instr.alloc, hz4, newVar, newRow]
  | box e x =>
    simp only [allocOf, Option.map_eq_some_iff] at ha
    obtain ⟨v, hv, ha⟩ := ha
    cases ha
    have h1 := hρ x (by simp [Op.operands]) _ hv
    refine ⟨.cells (ρc x).cells e, (ρc x).cells.size, .pointer (some ⟨w.heap.size, 0, none⟩), ?_, fun i => fits_cells hR h1.cells i, fun ν i hν => ⟨_, _, hν, rfl⟩⟩
    simp [execOp, Instr.box, newVar, newRow]
  | buildSlice t len parts =>
    simp only [allocOf] at ha
    split at ha
    · rename_i e hu
      split at ha
      · rename_i z n hz hs
        cases hb : (Nat.beq n 0 || Nat.ble 1000000 (len * n) || !Nat.beq z.cells.len n) with
        | true => rw [hb] at ha; simp at ha
        | false =>
          rw [hb] at ha
          simp only [Bool.or_eq_false_iff, Bool.not_eq_false'] at hb
          obtain ⟨⟨b1, b2⟩, b3⟩ := hb
          have b1 := (beq_false _ _).1 b1
          have b3 := (beq_iff _ _).1 b3
          have b2 : len * n < 1000000 := by
            refine Decidable.byContradiction fun q => ?_
            rw [Nat.ble_eq_true_of_le (by omega)] at b2; cases b2
          simp only [cond_false, Option.map_eq_some_iff] at ha
          obtain ⟨cs, hfill, ha⟩ := ha
          cases ha
          obtain ⟨zi, zx, hz1, hz2, hz3, hz4⟩ := zero_of μ hz
          have hzc := hz3.cells
          have hzs : zx.cells.size = n := by rw [← Array.length_toList, hzc.len, b3]
          have hp : ∀ p ∈ parts.toList, ∀ v, ρ p.2 = some v → VR μ v (ρc p.2) := by
            intro p hp
            exact hρ p.2 (by simp only [Op.operands, List.mem_toArray, List.mem_map]; exact ⟨p, hp, rfl⟩)
          have hmap : (parts.map fun (i, x) => (i, ρc x)).toList = parts.toList.map fun (p : Nat × Operand) => (p.1, ρc p.2) := by simp
          obtain ⟨cells', h1, h2⟩ := fill_sound parts.toList _ cs _ hp (made_LR hzc (by omega) len (len * n) (by rw [hzs])) hfill
          refine ⟨.cells cells' e, cells'.size, .slice (some ⟨w.heap.size, 0, none⟩) len len, ?_, fun i => fits_cells hR h2 i, fun ν i hν => ⟨_, _, len, hν, rfl, Nat.le_refl _, fun _ => rfl, ?_, Nat.le_refl _⟩⟩
          · have hbig : ¬ (16777216 < len * n) := by omega
            refine run_val ?_
            simp only [Instr.buildSlice, Sem.run_bind, run_underlying hu, Result.andThen_ok, run_size hs]
            rw [if_neg (by simpa using hbig)]
            by_cases hln : len * n = 0
            · simp only [if_pos hln, Sem.run_bind, Sem.run_pure, Result.andThen_ok, hmap]
              have hl0 : len = 0 := by
                rcases Nat.mul_eq_zero.1 hln with q | q
                · exact q
                · omega
              subst hl0
              have e1 : (Array.range (0 * n)).map (fun i => zx.cells[i % zx.cells.size]!) = (Array.range (0 * n)).map (fun i => (#[] : Array Value)[i % (#[] : Array Value).size]!) := by simp
              rw [e1] at h1
              rw [h1]
              simp [newRow]
            · simp only [if_neg hln, Sem.run_bind, hz4, Sem.run_pure, Result.andThen_ok, hmap, h1]
              simp [newRow]
          · have hcl := h2.len
            rw [fillParts_len hfill, rep_len (hzc.isList), b3, Array.length_toList] at hcl
            omega
      · simp at ha
    · simp at ha
  | makeSlice t l c =>
    simp only [allocOf] at ha
    split at ha
    · rename_i e lv cv hu hl hc
      split at ha
      · rename_i z inf len cap hz hi hln hcn
        cases hb : (Nat.beq inf.size 0 || Nat.ble 1000000000 ((cap + 1) * (inf.bytes + 1)) || Nat.blt cap len || !Nat.beq z.cells.len inf.size) with
        | true => rw [hb] at ha; simp at ha
        | false =>
          rw [hb] at ha
          simp only [Bool.or_eq_false_iff, Bool.not_eq_false'] at hb
          obtain ⟨⟨⟨b1, b2⟩, b3⟩, b4⟩ := hb
          have b1 := (beq_false _ _).1 b1
          have b4 := (beq_iff _ _).1 b4
          have b2 : (cap + 1) * (inf.bytes + 1) < 1000000000 := by
            refine Decidable.byContradiction fun q => ?_
            rw [Nat.ble_eq_true_of_le (by omega)] at b2; cases b2
          have b3 : len ≤ cap := by
            refine Decidable.byContradiction fun q => ?_
            rw [(blt_iff cap len).2 (by omega)] at b3; cases b3
          simp only [cond_false, Option.some.injEq] at ha
          cases ha
          obtain ⟨zi, zx, hz1, hz2, hz3, hz4⟩ := zero_of μ hz
          rw [hi] at hz1; cases hz1
          have hzc := hz3.cells
          have hzs : zx.cells.size = inf.size := by rw [← Array.length_toList, hzc.len, b4]
          obtain ⟨kl, el⟩ := nat_val hln (hρ l (by simp [Op.operands]) _ hl)
          obtain ⟨kc, ec⟩ := nat_val hcn (hρ c (by simp [Op.operands]) _ hc)
          have hcap : cap + 1 ≤ (cap + 1) * (inf.bytes + 1) := Nat.le_mul_of_pos_right _ (by omega)
          have hby : inf.bytes * cap ≤ (cap + 1) * (inf.bytes + 1) := by rw [Nat.mul_comm]; exact Nat.mul_le_mul (by omega) (by omega)
          have hrun := run_make w t e inf zx hu hi hz2 kl kc (len : Int) (cap : Int) (by omega) (by omega) (by
            have : ((inf.bytes * cap : Nat) : Int) ≤ 281474976710656 := by omega
            simpa using this) (by omega)
          have hLR := made_LR hzc (by omega) cap (cap * inf.size) (by rw [hzs])
          refine ⟨.cells (madeCells zx.cells (cap * inf.size)) e, (madeCells zx.cells (cap * inf.size)).size, .slice (some ⟨w.heap.size, 0, none⟩) len cap, ?_, fun i => fits_cells hR hLR i, fun ν i hν => ⟨_, _, cap, hν, rfl, Nat.le_refl _, fun _ => rfl, by simp [madeCells], b3⟩⟩
          refine run_val ?_
          rw [el, ec]
          simpa using hrun
      · simp at ha
    · simp at ha
  | makeMap t r =>
    cases r with
    | some x => simp [allocOf] at ha
    | none =>
      simp only [allocOf] at ha
      split at ha
      · rename_i kt et hu
        cases ha
        refine ⟨.map #[] 0, 0, .map (some w.heap.size), ?_, fun i => fits_map kt i 0, fun ν i hν => ⟨_, _, hν, rfl⟩⟩
        simp [execOp, Instr.makeMap]
      · simp at ha
  | _ => simp [allocOf] at ha

end
end Go.Eng

namespace Go.Eng
open Go.RowKit

section
variable {P : Program} {B : Nat} {w0 : World} {G : Sett} {μ : Mu} {H : AH} {w : World}

theorem store_sound {β : Type} (h : Rep P B w0 G μ H w) {t : TypeId} {i off n : Nat} {v : AV} {x y : Value} {k : AH → Option β} {r : β} (hs : sizeT P t = some n) (hn : v.cells.len = n)
    (hx : VR μ (.ptr i off) x) (hy : VR μ v y) (hk : H.storeCells i off v.cells k = some r) :
    ∃ H' w', k H' = some r ∧ (Instr.storeAt t x y).run P w = .ok () w' ∧ Rep P B w0 G μ H' w' ∧ H'.next = H.next := by
  obtain ⟨fam, ver, e, cs, lw, cs', ho, hf, hl, hone, hp, hk'⟩ := storeCells_some hk
  obtain ⟨b, N, hm, rfl⟩ := hx
  have hc := hy.cells
  obtain ⟨arr, te, hw, hfit, hrep⟩ := h.store ho hf hl hm hc hp
  have hst := run_storeCells_at P b off te y.cells.toList 0 arr w hw (by simpa using hfit) (hc.allOne hone)
  simp only [Nat.add_zero] at hst
  have hsz : y.cells.size = n := by rw [← Array.length_toList, hc.len, hn]
  refine ⟨_, _, hk', ?_, hrep, rfl⟩
  simp only [Instr.storeAt, Instr.sureAddr, Sem.run_bind, Sem.run_pure, Result.andThen_ok, storeVar, run_size hs, ne_eq, hsz, not_true_eq_false, if_false]
  exact hst

theorem mapUpdate_sound {β : Type} (h : Rep P B w0 G μ H w) {t kt et : TypeId} {i : Nat} {key v es : AV} {x y z : Value} {k : AH → Option β} {r : β} (hu : P.underlying t = some (.map kt et)) (hkf : keyFits P kt key = true)
    (ho : H.objs.get i = some (.map kt es)) (hx : VR μ (.map i) x) (hy : VR μ key y) (hz : VR μ v z) (hk : k (H.set i (.map kt (updE key v es))) = some r) :
    ∃ H' w', k H' = some r ∧ (Instr.mapUpdate t x y z).run P w = .ok () w' ∧ Rep P B w0 G μ H' w' ∧ H'.next = H.next := by
  obtain ⟨b, N, hm, rfl⟩ := hx
  obtain ⟨hB, en, cl, hw, hER⟩ := h.map _ _ _ _ _ ho hm
  obtain ⟨res, hf, hfound⟩ := findKey_run hkf hy w hER
  have hck := checkKey_run hkf hy false w
  have hset : ∀ o, (setObj b o).run P w = .ok () (withObjAt w b o) := fun o => by simp [setObj, Sem.run, hw, withObjAt]
  have hget : (getObj b).run P w = .ok (.map en cl) w := by simp [getObj, Sem.run, hw]
  have fits : ∀ (en' : Array MapEntry) cl', ER P μ kt (updE key v es) en'.toList → Fits P G.res μ (.map kt (updE key v es)) (.map en' cl') N := by
    intro en' cl' hE
    exact ⟨(by intro _ he; cases he), (by intro _ _ _ he; cases he), (by intro _ _ _ _ he; cases he), (by intro kt' es' he; cases he; exact ⟨en', cl', rfl, hE⟩), (by intro _ _ _ _ _ _ _ _ _ he; cases he), (by intro _ he; cases he)⟩
  rcases hfound with ⟨g1, rfl, g2⟩ | ⟨u, j, e, g1, rfl, g3, g4, g5, g6⟩
  · refine ⟨_, withObjAt w b (.map (en.push { key := y, val := z, born := cl }) (cl + 1)), hk, ?_, h.setObj ho hm hB (by simp) (by simp) (by simp) (fits _ _ (by simpa using g2 v z cl hz)), rfl⟩
    simp only [Instr.mapUpdate, Sem.run_bind, run_underlying hu, Result.andThen_ok, hget, hck, hf, hset]
  · have hkey : ((en[0 + j]?).map (·.key)).getD y = y := by
      have : en[j]? = some e := by simpa using g3
      simp [this, g5]
    have hstay : (Instr.keyThatStays y y).run P w = .ok y w := by simp [Instr.keyThatStays, sameBits_self hkf hy]
    refine ⟨_, withObjAt w b (.map (en.modify (0 + j) fun e => { e with key := y, val := z }) cl), hk, ?_, h.setObj ho hm hB (by simp) (by simp) (by simp) (fits _ _ ?_), rfl⟩
    · simp only [Instr.mapUpdate, Sem.run_bind, run_underlying hu, Result.andThen_ok, hget, hck, hf, hset, hkey, hstay]
    · have := g6 v z hz
      rw [Nat.zero_add, Array.toList_modify]
      exact this

/-! ### append -/
theorem src_sound (h : Rep P B w0 G μ H w) {x : AV} {y : Value} {esz n : Nat} {xs : AV} (hx : VR μ x y)
    (hs : srcOf H esz x = some (n, xs)) :
    ∃ a c news, y = .slice a n c ∧ news.length = n * esz ∧ LR μ xs news ∧ (∀ w', w'.heap = w.heap → (Builtin.firstCells esz n y).run P w' = .ok news.toArray w') := by
  unfold srcOf at hs
  cases x with
  | sc q =>
    cases q with
    | nilSlice =>
      simp at hs
      obtain ⟨rfl, rfl⟩ := hs
      have hy : y = .slice none 0 0 := hx
      exact ⟨none, 0, [], hy, by simp, rfl, fun w' _ => by subst hy; simp [Builtin.firstCells]⟩
    | _ => simp at hs
  | slc i o len cm ex es =>
    simp only at hs
    split at hs
    · rename_i cs hc
      simp at hs
      obtain ⟨rfl, rfl⟩ := hs
      obtain ⟨b, N, c, hm, rfl, _⟩ := hx
      obtain ⟨news, h1, h2, h3⟩ := h.load hc hm
      refine ⟨_, c, news, rfl, h1, h2, fun w' hw' => ?_⟩
      have := run_firstCells_some (P := P) w' esz len ⟨b, o, none⟩ len c news h1 (fun j v q => by
        have := h3 j v q
        simpa [World.cell?, hw'] using this)
      exact this
    · simp at hs
  | _ => simp at hs

theorem Rep.loadAll (h : Rep P B w0 G μ H w) {i fam ver lw b N tip : Nat} {e : TypeId} {cs : AV} (ho : H.objs.get i = some (.cells fam ver e cs)) (hf : H.fams.get fam = some (tip, lw)) (hl : lw ≤ ver) (hm : μ i = some (b, N)) :
    ∃ xs : List Value, xs.length = cs.len ∧ LR μ cs xs ∧ ∀ j v, xs[j]? = some v → w.cell? ⟨b, j, none⟩ = some v := by
  obtain ⟨arr, te, fz, hw, hN, hcN, hLR, _⟩ := h.cells _ _ _ _ _ _ _ _ _ ho hf hl hm
  refine ⟨_, hLR.len, hLR, ?_⟩
  intro j v hj
  rw [List.getElem?_take] at hj
  split at hj
  · rw [cell?_of hw]; simpa using hj
  · simp at hj

theorem append_room_run {t u ty e e' : TypeId} {inf : TypeInfo} (hut : P.underlying t = some (.slice e)) (huu : P.underlying u = some (.slice e')) (hi : P.info? e = some inf) {b o sLen sCap n c : Nat} {a : Option Addr} {news : List Value} {arr : Array Value} {te : TypeId}
    (hfirst : ∀ w', w'.heap = w.heap → (Builtin.firstCells inf.size n (.slice a n c)).run P w' = .ok news.toArray w') (hw : w.heap[b]? = some (.cells arr te (0, 0))) (hroom : sLen + n ≤ sCap)
    (hfit : o + sLen * inf.size + news.length ≤ arr.size) (hone : ∀ v ∈ news, v.oneCell' = true) :
    (Builtin.append_ #[t, u] ty #[.slice (some ⟨b, o, none⟩) sLen sCap, .slice a n c]).run P w =
      .ok (.slice (some ⟨b, o, none⟩) (sLen + n) sCap) (w.setRow b (arr.toList.take (o + sLen * inf.size) ++ news ++ arr.toList.drop (o + sLen * inf.size + news.length)).toArray) := by
  have hf := hfirst w rfl
  have hst := run_storeCells_at P b (o + sLen * inf.size) te news 0 arr w hw (by simpa using hfit) hone
  simp only [Nat.add_zero] at hst
  simp [Builtin.append_, run_underlying hut, run_underlying huu, sizeOf, typeInfo, hi, Builtin.lenOf, hroom, hf, add_off, hst]

theorem append_grow_run {t u ty e e' : TypeId} {inf : TypeInfo} {z : Value} (hut : P.underlying t = some (.slice e)) (huu : P.underlying u = some (.slice e')) (hi : P.info? e = some inf) (hz : inf.zero = some z) {sLen sCap n c : Nat} {a base : Option Addr} {olds news : List Value}
    (hfirst : ∀ w', w'.heap = w.heap → (Builtin.firstCells inf.size n (.slice a n c)).run P w' = .ok news.toArray w') (hold : ∀ w', w'.heap = w.heap → (Builtin.firstCells inf.size sLen (.slice base sLen sCap)).run P w' = .ok olds.toArray w')
    (hg : sCap < sLen + n) (hfit : 4 * (sLen + n + 1) * (inf.bytes + 1) ≤ 1000000000) :
    ∃ C, sLen + n ≤ C ∧ (Builtin.append_ #[t, u] ty #[.slice base sLen sCap, .slice a n c]).run P w =
      .ok (.slice (some ⟨w.heap.size, 0, none⟩) (sLen + n) C) (({ w with drawn := w.drawn + 1 } : World).alloc (.cells (olds.toArray ++ news.toArray ++ Builtin.zeroCells z.cells (C - (sLen + n))) e)) := by
  refine ⟨grownCap w (sLen + n) sCap e, Nat.le_add_right _ _, ?_⟩
  have hn : ¬ (sLen + n ≤ sCap) := by omega
  have hbig : 4 * (sLen + n + 1) ≤ 4 * (sLen + n + 1) * (inf.bytes + 1) := Nat.le_mul_of_pos_right _ (by omega)
  have h63' : ¬ (9223372036854775807 < ((sLen : Int) + (n : Int))) := by omega
  have h1 : Builtin.nextslicecap (sLen + n) sCap ≤ 2 * (sLen + n) := nextslicecap_le hg
  have h2 : Builtin.nextslicecap (sLen + n) sCap * inf.bytes ≤ 4 * (sLen + n + 1) * (inf.bytes + 1) := Nat.mul_le_mul (by omega) (by omega)
  have h48' : ¬ (281474976710656 < Builtin.nextslicecap (sLen + n) sCap * inf.bytes) := by omega
  have hf := hfirst w.drew rfl
  have hfo := hold w.drew rfl
  simp [Builtin.append_, run_underlying hut, run_underlying huu, sizeOf, typeInfo, zeroValue, hi, hz, Builtin.lenOf, hn, h63', h48', Question.forced, hf, hfo, newRow, grownCap]
  congr 2
  apply Array.ext'
  simp [List.append_assoc]

theorem append_sound {β : Type} (h : Rep P B w0 G μ H w) {ts : Array TypeId} {ty : TypeId} {s x : AV} {sv xv : Value} {k : AV → AH → Option β} {r : β} (hs : VR μ s sv) (hx : VR μ x xv) (hk : opAppend P ts s x H k = some r) :
    ∃ v H' w' μ' y, k v H' = some r ∧ (Builtin.append_ ts ty #[sv, xv]).run P w = .ok y w' ∧ Ext H μ H' μ' ∧ VR μ' v y ∧ Rep P B w0 G μ' H' w' := by
  unfold opAppend at hk
  split at hk
  · rename_i t u hts
    have ht : ts = #[t, u] := by apply Array.toList_inj.1; simpa using hts
    subst ht
    split at hk
    · rename_i e e' hut huu
      split at hk
      · rename_i inf za hi hza
        obtain ⟨zi, z, hz1, hz2, hz3, _⟩ := zero_of μ hza
        rw [hi] at hz1; cases hz1
        cases hcond : (Nat.beq inf.size 0 || !Nat.beq za.cells.len inf.size || H.res.contains e) with
        | true => simp only [hcond, cond_true] at hk; cases hk
        | false =>
          simp only [hcond, cond_false] at hk
          simp only [Bool.or_eq_false_iff, Bool.not_eq_false'] at hcond
          have hesz := (beq_false _ _).1 hcond.1.1
          have hzl := (beq_iff _ _).1 hcond.1.2
          have hres : G.res.contains e = false := by rw [← h.resd]; exact hcond.2
          have hzs : z.cells.size = inf.size := by rw [← Array.length_toList, hz3.cells.len, hzl]
          have hdrawn : Rep P B w0 G μ H { w with drawn := w.drawn + 1 } := h.drewN _
          -- a new block of its own
          have fresh : ∀ (cs : AV) (olds news : List Value) (C need : Nat) (k' : Nat → AH → Option β), LR μ cs (olds ++ news) → (olds ++ news).length = need * inf.size → need ≤ C → H.newCells e cs k' = some r →
              ∃ H', k' H.next H' = some r ∧ VR (μ.add H.next w.heap.size ((olds.toArray ++ news.toArray ++ Builtin.zeroCells z.cells (C - need)).size)) (.slc H.next 0 need need false inf.size) (.slice (some ⟨w.heap.size, 0, none⟩) need C) ∧
                Ext H μ H' (μ.add H.next w.heap.size ((olds.toArray ++ news.toArray ++ Builtin.zeroCells z.cells (C - need)).size)) ∧
                Rep P B w0 G (μ.add H.next w.heap.size ((olds.toArray ++ news.toArray ++ Builtin.zeroCells z.cells (C - need)).size)) H' (({ w with drawn := w.drawn + 1 } : World).alloc (.cells (olds.toArray ++ news.toArray ++ Builtin.zeroCells z.cells (C - need)) e)) := by
            intro cs olds news C need k' hL hlen hC hkk
            rw [newCells_eq] at hkk
            have hun := h.notYet (i := H.next) (Nat.le_refl _)
            have hl := hL.len
            have hsz : (olds.toArray ++ news.toArray ++ Builtin.zeroCells z.cells (C - need)).size = C * inf.size := by
              simp only [Array.size_append, List.size_toArray, Builtin.zeroCells, Array.size_map, Array.size_range, hzs]
              rw [← List.length_append, hlen, ← Nat.add_mul]; congr 1; omega
            refine ⟨_, hkk, ⟨w.heap.size, _, C, if_pos rfl, rfl, hC, (fun q => by cases q), by rw [hsz]; omega, Nat.le_refl _⟩, .add hun (Nat.le_succ _), ?_⟩
            have hob : ∀ o, (H.withCells e cs).objs.get H.next = some o → o = .cells H.next 0 e cs := by
              intro o ho
              rcases Tr.get_set deep H.objs H.next (some (.cells H.next 0 e cs)) H.next o ho with ⟨_, q⟩ | ⟨q, _⟩
              · exact (Option.some.inj q).symm
              · exact absurd rfl q
            refine (hdrawn.layCells e cs).bind (Nat.lt_succ_self _) hob hun ?_
            refine ⟨(by intro _ he; cases he), (by intro _ _ _ he; cases he; exact hres), ?_, (by intro _ _ he; cases he), (by intro _ _ _ _ _ _ _ _ _ he; cases he), (by intro _ he; cases he)⟩
            intro fam ver e2 cs2 he
            cases he
            refine ⟨_, _, rfl, rfl, by rw [← hl, hlen, hsz]; exact Nat.mul_le_mul_right _ hC, ?_⟩
            have : ((olds.toArray ++ news.toArray ++ Builtin.zeroCells z.cells (C - need)).toList).take cs.len = olds ++ news := by
              simp only [Array.toList_append]
              rw [List.take_append_of_le_length (by simp at hl ⊢; omega), List.take_of_length_le (by simp at hl ⊢; omega)]
            rw [this]; exact hL
          split at hk
          · cases hk
          · rename_i n xs hsrc
            obtain ⟨a, c, news, rfl, hnl, hnL, hfirst⟩ := src_sound h hx hsrc
            split at hk
            · have hsv : sv = .slice none 0 0 := hs
              subst hsv
              cases hn0 : Nat.beq n 0 with
              | true =>
                simp only [hn0, cond_true] at hk
                have hn0 := (beq_iff _ _).1 hn0
                subst hn0
                simp [ok] at hk
                refine ⟨_, H, w, μ, .slice none 0 0, hk, ?_, .refl H μ, hs, h⟩
                have hf := hfirst w rfl
                have hnil : news = [] := by apply List.length_eq_zero_iff.1; simpa using hnl
                subst hnil
                simp [Builtin.append_, run_underlying hut, run_underlying huu, sizeOf, typeInfo, hi, Builtin.lenOf, hf]
              | false =>
                simp only [hn0, cond_false] at hk
                have hn0 := (beq_false _ _).1 hn0
                cases hroom : Nat.ble (4 * (n + 1) * (inf.bytes + 1)) 1000000000 with
                | false => rw [hroom] at hk; cases hk
                | true =>
                  rw [hroom] at hk
                  have hroom := Nat.le_of_ble_eq_true hroom
                  simp only [cond_true] at hk
                  obtain ⟨C, hC, hrun⟩ := append_grow_run (w := w) (ty := ty) (sLen := 0) (sCap := 0) (base := none) (olds := []) hut huu hi hz2 hfirst (fun w' _ => by simp [Builtin.firstCells]) (by omega) (by simpa using hroom)
                  obtain ⟨H', g1, g2, g3, g4⟩ := fresh xs [] news C n _ hnL hnl (by omega) hk
                  simp only [Nat.zero_add] at hrun
                  simp only [ok, AV.force_eq] at g1
                  exact ⟨_, H', _, _, _, g1, hrun, g3, g2, g4⟩
            · rename_i i o len cm ex esz'
              obtain ⟨b, N, cp, hm, rfl, hcp1, hcp2, hcp3, hcp4⟩ := hs
              cases hee : Nat.beq inf.size esz' with
              | false => rw [hee] at hk; cases hk
              | true =>
                rw [hee] at hk
                have hee := (beq_iff _ _).1 hee
                subst hee
                simp only [cond_true] at hk
                cases hn0 : Nat.beq n 0 with
                | true =>
                  rw [hn0] at hk
                  have hn0 := (beq_iff _ _).1 hn0
                  subst hn0
                  simp [ok] at hk
                  refine ⟨_, H, w, μ, .slice (some ⟨b, o, none⟩) len cp, hk, ?_, .refl H μ, ⟨b, N, cp, hm, rfl, hcp1, hcp2, hcp3, hcp4⟩, h⟩
                  have hf := hfirst w rfl
                  have hnil : news = [] := by apply List.length_eq_zero_iff.1; simpa using hnl
                  subst hnil
                  have hle : len ≤ cp := by omega
                  simp [Builtin.append_, run_underlying hut, run_underlying huu, sizeOf, typeInfo, hi, Builtin.lenOf, hf, hle, storeCells]
                | false =>
                  rw [hn0] at hk
                  have hn0 := (beq_false _ _).1 hn0
                  simp only [cond_false] at hk
                  cases hcm : Nat.ble (len + n) cm with
                  | true =>
                    rw [hcm] at hk
                    have hcm := Nat.le_of_ble_eq_true hcm
                    simp only [cond_true] at hk
                    obtain ⟨fam, ver, te, cs, lw, cs', ho, hf, hl, hone, hp, hk'⟩ := storeCells_some hk
                    obtain ⟨arr, te', hw, hfit, hrep⟩ := h.store ho hf hl hm hnL hp
                    have hrun := append_room_run (ty := ty) (sCap := cp) (o := o) hut huu hi hfirst hw (show len + n ≤ cp by omega) hfit (hnL.allOne hone)
                    simp only [ok, AV.force_eq] at hk'
                    exact ⟨_, _, _, μ, _, hk', hrun, .same μ rfl, ⟨b, N, cp, hm, rfl, hcp1, hcp2, hcp3, hcm⟩, hrep⟩
                  | false =>
                    rw [hcm] at hk
                    have hcm : cm < len + n := by
                      refine Decidable.byContradiction fun q => ?_
                      rw [Nat.ble_eq_true_of_le (by omega)] at hcm; cases hcm
                    simp only [cond_false] at hk
                    cases hroom : Nat.ble (4 * (len + n + 1) * (inf.bytes + 1)) 1000000000 with
                    | false => rw [hroom] at hk; cases hk
                    | true =>
                      rw [hroom] at hk
                      have hroom := Nat.le_of_ble_eq_true hroom
                      simp only [cond_true] at hk
                      cases ex with
                      | true =>
                        simp only [cond_true] at hk
                        have hcc := hcp2 rfl
                        subst hcc
                        split at hk
                        · rename_i old hold
                          obtain ⟨olds, hol, hoL, hoc⟩ := h.load hold hm
                          have hof : ∀ w' : World, w'.heap = w.heap → (Builtin.firstCells inf.size len (.slice (some ⟨b, o, none⟩) len cp)).run P w' = .ok olds.toArray w' := fun w' hw' =>
                            run_firstCells_some (P := P) w' inf.size len ⟨b, o, none⟩ len cp olds hol (fun j v q => by
                              have := hoc j v q
                              simpa [World.cell?, hw'] using this)
                          obtain ⟨C, hC, hrun⟩ := append_grow_run (w := w) (ty := ty) hut huu hi hz2 hfirst hof hcm hroom
                          obtain ⟨H', g1, g2, g3, g4⟩ := fresh (old.app xs) olds news C (len + n) _ (LR.app hnL hoL) (by rw [List.length_append, hol, hnl, Nat.add_mul]) hC hk
                          simp only [ok, AV.force_eq] at g1
                          exact ⟨_, H', _, _, _, g1, hrun, g3, g2, g4⟩
                        · cases hk
                      | false =>
                        simp only [cond_false] at hk
                        split at hk
                        · rename_i f1 f2 f3 cs1 hlive
                          cases hbb : (Nat.beq (o + len * inf.size) cs1.len && Nat.beq o 0) with
                          | false => rw [hbb] at hk; cases hk
                          | true =>
                            rw [hbb] at hk
                            simp only [Bool.and_eq_true] at hbb
                            have hb1 := (beq_iff _ _).1 hbb.1
                            have hb2 := (beq_iff _ _).1 hbb.2
                            subst hb2
                            simp only [cond_true] at hk
                            obtain ⟨fam, ver, te, cs, lw, ho, hf, hl, hone, hk'⟩ := version_some hk
                            obtain ⟨ho', _⟩ := live_some hlive
                            have hcs : cs1 = cs := by rw [ho] at ho'; cases ho'; rfl
                            rw [hcs] at hb1
                            have hun := h.notYet (i := H.next) (Nat.le_refl _)
                            simp only [ok, AV.force_eq] at hk'
                            by_cases hroomy : len + n ≤ cp
                            · have hNfit : cs.len + news.length ≤ N := by
                                rw [hnl, ← hb1, Nat.zero_add, ← Nat.add_mul]
                                have := Nat.mul_le_mul_right inf.size hroomy
                                omega
                              obtain ⟨arr, te', hw, hsz, hrep⟩ := h.versionHere ho hf hl hm hnL hNfit
                              have hrun := append_room_run (ty := ty) (sCap := cp) (o := 0) hut huu hi hfirst hw hroomy (by rw [hb1, hsz]; exact hNfit) (hnL.allOne hone)
                              rw [hb1] at hrun
                              exact ⟨_, _, _, _, _, hk', hrun, .add hun (Nat.le_succ _), ⟨b, N, cp, if_pos rfl, rfl, hroomy, (fun q => by cases q), hcp3, Nat.le_refl _⟩, hrep⟩
                            · obtain ⟨olds, hol, hoL, hoc⟩ := h.loadAll ho hf hl hm
                              have hol' : olds.length = len * inf.size := by rw [hol, ← hb1]; omega
                              have hof : ∀ w' : World, w'.heap = w.heap → (Builtin.firstCells inf.size len (.slice (some ⟨b, 0, none⟩) len cp)).run P w' = .ok olds.toArray w' := fun w' hw' =>
                                run_firstCells_some (P := P) w' inf.size len ⟨b, 0, none⟩ len cp olds hol' (fun j v q => by
                                  have := hoc j v q
                                  rw [add_off, Nat.zero_add]
                                  simpa [World.cell?, hw'] using this)
                              obtain ⟨C, hC, hrun⟩ := append_grow_run (w := w) (ty := ty) hut huu hi hz2 hfirst hof (by omega) hroom
                              have hL2 : LR μ (cs.app xs) (olds ++ news) := LR.app hnL hoL
                              have hlen2 : (olds ++ news).length = (len + n) * inf.size := by rw [List.length_append, hol', hnl, Nat.add_mul]
                              have hsz : (olds.toArray ++ news.toArray ++ Builtin.zeroCells z.cells (C - (len + n))).size = C * inf.size := by
                                simp only [Array.size_append, List.size_toArray, Builtin.zeroCells, Array.size_map, Array.size_range, hzs]
                                rw [← List.length_append, hlen2, ← Nat.add_mul]; congr 1; omega
                              have hl2 := hL2.len
                              have hob : ∀ q, (H.versioned fam ver lw te (cs.app xs)).objs.get H.next = some q → q = .cells fam (ver + 1) te (cs.app xs) := by
                                intro q hq
                                rcases Tr.get_set deep H.objs H.next (some (.cells fam (ver + 1) te (cs.app xs))) H.next q hq with ⟨_, q'⟩ | ⟨q', _⟩
                                · exact (Option.some.inj q').symm
                                · exact absurd rfl q'
                              refine ⟨_, _, _, μ.add H.next w.heap.size (olds.toArray ++ news.toArray ++ Builtin.zeroCells z.cells (C - (len + n))).size, _, hk', hrun, .add hun (Nat.le_succ _), ⟨w.heap.size, _, C, if_pos rfl, rfl, hC, (fun q => by cases q), by rw [hsz]; omega, Nat.le_refl _⟩,
                                (hdrawn.layVersion ho hf (cs.app xs)).bind (Nat.lt_succ_self _) hob hun ⟨(by intro _ he; cases he), (by intro _ _ _ he; cases he; exact hres), ?_, (by intro _ _ he; cases he), (by intro _ _ _ _ _ _ _ _ _ he; cases he), (by intro _ he; cases he)⟩⟩
                              intro fam2 ver2 e2 cs2 he
                              cases he
                              refine ⟨_, _, rfl, rfl, by rw [← hl2, hlen2, hsz]; exact Nat.mul_le_mul_right _ hC, ?_⟩
                              have : ((olds.toArray ++ news.toArray ++ Builtin.zeroCells z.cells (C - (len + n))).toList).take (cs.app xs).len = olds ++ news := by
                                simp only [Array.toList_append]
                                rw [List.take_append_of_le_length (by simp at hl2 ⊢; omega), List.take_of_length_le (by simp at hl2 ⊢; omega)]
                              rw [this]; exact hL2
                        · cases hk
            · cases hk
      · cases hk
    · cases hk
  · cases hk

end
end Go.Eng

namespace Go.Eng
open Go.RowKit

abbrev CAct := _root_.Go.Act

/-- A deferred call that leaves everything alone where nothing panics. -/
def StillD (P : Program) (d : Deferred) : Prop := ∃ g cap, d.target = .fn (.func g) cap ∧ (∀ w, (invoke d.target d.args).run P w = .ok (.enter g (d.args ++ cap)) w) ∧
  ∀ w, CallsDIn Fence.wide 0 P g (d.args ++ cap) .returning w fun e u w' => (∃ v, e = .returned v) ∧ u = .returning ∧ w'.heap = w.heap ∧ Below w.heap.size w w'

/-- The deferred marks of a frame. -/
def DR (P : Program) (μ : Mu) : List Mark → List Deferred → Prop
  | [], l => l = []
  | .loop i :: r, l => ∃ b N t, l = { target := .collected b, args := #[] } :: t ∧ μ i = some (b, N) ∧ DR P μ r t
  | .still :: r, l => ∃ d t, l = d :: t ∧ StillD P d ∧ DR P μ r t

theorem DR.mono {P : Program} {μ ν : Mu} (h : μ.le ν) : ∀ {ds : List Mark} {l : List Deferred}, DR P μ ds l → DR P ν ds l
  | [], _, h' => h'
  | .loop _ :: _, _, ⟨b, N, t, e, hm, ht⟩ => ⟨b, N, t, e, h _ _ hm, DR.mono h ht⟩
  | .still :: _, _, ⟨d, t, e, hd, ht⟩ => ⟨d, t, e, hd, DR.mono h ht⟩

def ActRel (P : Program) (μ : Mu) (a : Act) (c : CAct) : Prop := TR μ a.nt a.T c.tmps ∧ DR P μ a.ds c.defers
theorem ActRel.mono {P : Program} {μ ν : Mu} (h : μ.le ν) {a : Act} {c : CAct} (ha : ActRel P μ a c) : ActRel P ν a c := ⟨ha.1.mono h, ha.2.mono h⟩

/-- What is asked behind a call. -/
def After (P : Program) (B : Nat) (w0 : World) (G : Sett) (μ : Mu) (H : AH) (v : AV) (H' : AH) : Ending → World → Prop :=
  fun e w' => ∃ x μ', e = .returned x ∧ Ext H μ H' μ' ∧ VR μ' v x ∧ Rep P B w0 G μ' H' w'

def StillOK (P : Program) (self : Cb) : Prop :=
  ∀ g, self.still g = true → (∃ fn : Func, P.funcs[g]? = some fn ∧ fn.body.isSome = true) ∧
    ∀ args w, CallsDIn Fence.wide 0 P g args .returning w fun e u w' => (∃ v, e = .returned v) ∧ u = .returning ∧ w'.heap = w.heap ∧ Below w.heap.size w w'

def CallsOK (P : Program) (B : Nat) (w0 : World) (G : Sett) (call : FuncId → AV → AH → Option (AV × AH)) : Prop :=
  ∀ f args H v H', call f args H = some (v, H') → (∃ fn : Func, P.funcs[f]? = some fn ∧ fn.body.isSome = true) ∧
    ∀ μ w (xs : Array Value), Rep P B w0 G μ H w → LR μ args xs.toList → CallsIn Fence.wide 0 P f xs w (After P B w0 G μ H v H')

def CallOK (P : Program) (B : Nat) (w0 : World) (G : Sett) (self : Cb) : Prop :=
  StillOK P self ∧ CallsOK P B w0 G self.call

def RoundOK (P : Program) (B : Nat) (w0 : World) (G : Sett) (self : Cb) : Prop :=
  ∀ l xs H v H', self.round l xs H = some (v, H') → ∀ μ w b N (ys : Array Value), Rep P B w0 G μ H w → μ l = some (b, N) → LR μ xs ys.toList →
    ∃ L : Loop, w.heap[b]? = some (.loop L) ∧ ys.size = L.params.size ∧
      RoundIn Fence.wide 0 P b L.fn ((L.params.zip ys).foldl (fun tmps (t, a) => tmps.setIfInBounds t a) L.tmps) L.assign L.body w (After P B w0 G μ H v H')

def NamesOK (P : Program) : Prop := ∀ (f : FuncId) (fn : Func), P.funcs[f]? = some fn → fn.body.isSome = true → (fn.name == "runtime.NumGoroutine") = false

/-- The fence: wide; in a round of a loop, that round's. -/
def Fz : Option Nat → Fence
  | none => Fence.wide
  | some l => Fence.wide.inRound l

theorem Fz_fn (ro : Option Nat) (f : FuncId) : (Fz ro).fn f := by cases ro <;> exact trivial
theorem Fz_round (ro : Option Nat) : (Fz ro).round = ro := by cases ro <;> rfl
theorem Fz_depth (ro : Option Nat) : (Fz ro).depth.isSome = true → 1 ≤ 0 := by cases ro <;> (intro h; cases h)
theorem Fz_calls {ro : Option Nat} {n : Nat} {P : Program} {f : FuncId} {args : Array Value} {w : World} {R : Ending → World → Prop} (h : CallsIn Fence.wide n P f args w R) : CallsIn (Fz ro) n P f args w R := by
  cases ro <;> exact h
theorem Fz_rounds {ro : Option Nat} {n : Nat} {P : Program} {l : Nat} {f : FuncId} {t : Array Value} {as bd : Code} {w : World} {R : Ending → World → Prop} (h : RoundIn Fence.wide n P l f t as bd w R) : RoundIn (Fz ro) n P l f t as bd w R := by
  cases ro <;> exact h

section
variable {P : Program} {B : Nat} {w0 : World} {G : Sett} {μ : Mu} {H : AH} {w : World}

theorem env_rel (h : Rep P B w0 G μ H w) {a : Act} {c : CAct} (ha : TR μ a.nt a.T c.tmps) {x : Operand} {v : AV} (hx : a.env G x = some v) : VR μ v (c.eval x) := by
  cases x with
  | tmp t => exact ha.2 t v hx
  | const u => exact ofVal_VR μ hx
  | global g =>
    simp only [Act.env] at hx
    cases hc : G.ids.contains g with
    | false => rw [hc] at hx; cases hx
    | true =>
      rw [hc] at hx
      simp at hx; subst hx
      obtain ⟨N, hN⟩ := h.glob g (by simpa using hc)
      exact ⟨g, N, hN, rfl⟩
  | func f =>
    simp [Act.env] at hx; subst hx
    exact ⟨#[], #[], rfl, rfl, rfl⟩

theorem TR.put {nt : Nat} {T : Tr AV} {tmps : Array Value} (h : TR μ nt T tmps) {d : Nat} {v : AV} {x : Value} (hd : d < nt) (hv : VR μ v x) : TR μ nt (Tr.set deep T d (some v)) (tmps.setIfInBounds d x) := by
  refine ⟨by simp [h.1], ?_⟩
  intro t u ht
  rcases Tr.get_set deep T d (some v) t u ht with ⟨rfl, q⟩ | ⟨hne, q⟩
  · cases q
    have : t < tmps.size := by rw [h.1]; exact hd
    simpa [this] using hv
  · have := h.2 t u q
    simpa [Array.getD_eq_getD_getElem?, Array.getElem?_setIfInBounds, Ne.symm hne] using this

theorem put_some {β : Type} {a : Act} {dst : Option Tmp} {v : AV} {k : Act → Option β} {r : β} (h : a.put dst v k = some r) {c : CAct} (ha : ActRel P μ a c) {x : Value} (hv : VR μ v x) :
    ∃ a', k a' = some r ∧ ActRel P μ a' (c.put dst x) ∧ a'.nt = a.nt ∧ a'.ds = a.ds := by
  cases dst with
  | none => exact ⟨a, h, ha, rfl, rfl⟩
  | some d =>
    simp only [Act.put] at h
    cases hd : Nat.blt d a.nt with
    | false => rw [hd] at h; cases h
    | true =>
      rw [hd] at h
      simp only [cond_true, Tr.setK_eq] at h
      exact ⟨_, h, ⟨ha.1.put ((blt_iff _ _).1 hd) hv, ha.2⟩, rfl, rfl⟩

/-- A barrier that is no call of a Go function. -/
theorem bar_sound {β : Type} (h : Rep P B w0 G μ H w) {ρ : Env} {ρc : Operand → Value} {o : Oper} (hρ : ∀ x ∈ o.op.operands, ∀ v, ρ x = some v → VR μ v (ρc x)) {k : AV → AH → Option β} {r : β} (hk : barOf P ρ o.op H k = some r) :
    ∃ v H' w' μ' x res, k v H' = some r ∧ (execOp ρc o).run P w = .ok res w' ∧ (res = .value x ∨ (res = .skip ∧ x = undef)) ∧ Ext H μ H' μ' ∧ VR μ' v x ∧ Rep P B w0 G μ' H' w' := by
  obtain ⟨dst, op, type, pos, after, guard⟩ := o
  simp only at hρ hk
  have upd : ∀ {t m x v}, (op = .mapUpdate t m x v ∨ op = .insert t m x v) → (match ρ m, ρ x, ρ v, P.underlying t with
      | some (.map i), some key, some v, some (.map kt _) => bif keyFits P kt key then
          match H.objs.get i with
          | some (.map kt' es) => bif Nat.beq kt kt' then (updE key v es).force fun es => H.withObj i (.map kt es) fun H => k (.sc .undef) H else none
          | _ => none
        else none
      | _, _, _, _ => none) = some r → ∃ v' H' w' μ' y res, k v' H' = some r ∧ ((do Instr.mapUpdate t (ρc m) (ρc x) (ρc v); pure Next.skip) : Sem Next).run P w = .ok res w' ∧ (res = .value y ∨ (res = .skip ∧ y = undef)) ∧ Ext H μ H' μ' ∧ VR μ' v' y ∧ Rep P B w0 G μ' H' w' := by
    intro t m x v hop hk
    have hmem : ∀ y, y = m ∨ y = x ∨ y = v → y ∈ op.operands := by
      intro y hy; rcases hop with rfl | rfl <;> simpa [Op.operands] using hy
    split at hk
    · rename_i i key u kt et hm hx hv hu
      cases hf : keyFits P kt key with
      | false => rw [hf] at hk; cases hk
      | true =>
        rw [hf] at hk
        simp only [cond_true] at hk
        split at hk
        · rename_i kt' es ho
          cases hkk : Nat.beq kt kt' with
          | false => rw [hkk] at hk; cases hk
          | true =>
            rw [hkk] at hk
            have := (beq_iff _ _).1 hkk
            subst this
            simp only [cond_true, AV.force_eq, withObj_eq] at hk
            obtain ⟨H', w', g1, g2, g3, g4⟩ := mapUpdate_sound (k := fun H => k (.sc .undef) H) h hu hf ho (hρ m (hmem m (by simp)) _ hm) (hρ x (hmem x (by simp)) _ hx) (hρ v (hmem v (by simp)) _ hv) hk
            exact ⟨_, H', w', μ, undef, .skip, g1, by simp [g2], .inr ⟨rfl, rfl⟩, .same μ g4, rfl, g3⟩
        · cases hk
    · cases hk
  cases op with
  | store t a x =>
    simp only [barOf] at hk
    split at hk
    · rename_i i off v n ha hx hs
      cases hn : Nat.beq v.cells.len n with
      | false => rw [hn] at hk; cases hk
      | true =>
        rw [hn] at hk
        simp only [cond_true] at hk
        obtain ⟨H', w', g1, g2, g3, g4⟩ := store_sound h hs ((beq_iff _ _).1 hn) (hρ a (by simp [Op.operands]) _ ha) (hρ x (by simp [Op.operands]) _ hx) hk
        exact ⟨_, H', w', μ, undef, .skip, g1, by simp [execOp, g2], .inr ⟨rfl, rfl⟩, .same μ g4, rfl, g3⟩
    · cases hk
  | mapUpdate t m x v =>
    obtain ⟨v', H', w', μ', y, res, g1, g2, g3⟩ := upd (.inl rfl) hk
    exact ⟨v', H', w', μ', y, res, g1, g2, g3⟩
  | insert t m x v =>
    obtain ⟨v', H', w', μ', y, res, g1, g2, g3⟩ := upd (.inr rfl) hk
    exact ⟨v', H', w', μ', y, res, g1, g2, g3⟩
  | call c =>
    obtain ⟨callee, args, argTypes⟩ := c
    cases callee with
    | builtin b =>
      cases b with
      | append =>
        simp only [barOf] at hk
        split at hk
        · rename_i s x hargs
          split at hk
          · rename_i sv xv hs hx
            have ha : args = #[s, x] := by apply Array.toList_inj.1; simpa using hargs
            subst ha
            obtain ⟨v, H', w', μ', y, g1, g2, g3, g4, g5⟩ := append_sound (ty := type) h (hρ s (by simp [Op.operands, Call.operands]) _ hs) (hρ x (by simp [Op.operands, Call.operands]) _ hx) hk
            exact ⟨v, H', w', μ', y, .value y, g1, by simp [execOp, resolve, invoke, builtin, g2], .inl rfl, g3, g4, g5⟩
          · cases hk
        · cases hk
      | _ => simp [barOf] at hk
    | _ => simp [barOf] at hk
  | _ => simp [barOf] at hk

end
end Go.Eng

namespace Go.Eng
open Go.RowKit

section
variable {P : Program} {B : Nat} {w0 : World} {G : Sett} {μ : Mu} {H : AH} {w : World}

theorem allOf_app {a b : AV} {xs ys : Array Value} (h1 : LR μ a xs.toList) (h2 : LR μ b ys.toList) : LR μ (a.app b) (xs ++ ys).toList := by
  rw [Array.toList_append]; exact LR.app h2 h1

/-- An operation that runs to a value, or to nothing. -/
theorem wpIn_of_run {o : Oper} {c : CAct} {ro : Option Nat} {K : CAct → World → Prop} {Q : Exit → CAct → World → Prop} {res : Next} {x : Value} {w' : World} (hd : ∀ q, o.op ≠ .defer q) (hr : (execOp c.eval o).run P w = .ok res w')
    (hx : res = .value x ∨ (res = .skip ∧ x = undef)) (hK : K (c.put o.dst x) w') : o.wpIn (Fz ro) 0 P c w K Q := by
  refine ⟨fun f _ => Fz_fn ro f, ?_⟩
  rw [Oper.semAt_eq _ _ _ hd, hr]
  rcases hx with rfl | ⟨rfl, rfl⟩
  · exact hK
  · exact hK

theorem quiet_noDefer {ρ : Env} {op : Op} {v : AV} (h : quietOf P ρ op H = some v) (q : Call) : op ≠ .defer q := by
  rintro rfl; simp [quietOf] at h
theorem alloc_noDefer {ρ : Env} {op : Op} {v : Mk × (Nat → AV)} (h : allocOf P ρ op = some v) (q : Call) : op ≠ .defer q := by
  rintro rfl; simp [allocOf] at h
theorem bar_noDefer {β : Type} {ρ : Env} {op : Op} {k : AV → AH → Option β} {r : β} (h : barOf P ρ op H k = some r) (q : Call) : op ≠ .defer q := by
  rintro rfl; simp [barOf] at h

theorem lay_mk (h : Rep P B w0 G μ H w) (m : Mk) : Rep P B w0 G μ (match m with | .cells e cs => H.withCells e cs | .map kt => H.withNew (.map kt .nil)) w := by
  cases m with
  | cells e cs => exact h.layCells e cs
  | map kt => exact h.layObj _ (by simp)

def AH.made (H : AH) : Mk → AH
  | .cells e cs => H.withCells e cs
  | .map kt => H.withNew (.map kt .nil)

theorem made_get {m : Mk} {o : AObj} (h : (H.made m).objs.get H.next = some o) : o = m.obj H.next := by
  cases m with
  | cells e cs =>
    rcases Tr.get_set deep H.objs H.next (some (.cells H.next 0 e cs)) H.next o h with ⟨_, q⟩ | ⟨q, _⟩
    · exact (Option.some.inj q).symm
    · exact absurd rfl q
  | map kt =>
    rcases Tr.get_set deep H.objs H.next (some (.map kt .nil)) H.next o h with ⟨_, q⟩ | ⟨q, _⟩
    · exact (Option.some.inj q).symm
    · exact absurd rfl q
theorem made_next (m : Mk) : (H.made m).next = H.next + 1 := by cases m <;> rfl

/-- An object made on both sides. -/
theorem Rep.make (h : Rep P B w0 G μ H w) {m : Mk} {obj : Obj} {N : Nat} (hfit : Fits P G.res μ (m.obj H.next) obj N) : Rep P B w0 G (μ.add H.next w.heap.size N) (H.made m) (w.alloc obj) := by
  have h' : Rep P B w0 G μ (H.made m) w := by
    cases m with
    | cells e cs => exact h.layCells e cs
    | map kt => exact h.layObj _ (by simp)
  exact h'.bind (by rw [made_next]; exact Nat.lt_succ_self _) (fun o ho => made_get ho) (h.notYet (Nat.le_refl _)) hfit

theorem opOf_wp {β : Type} (h : Rep P B w0 G μ H w) {ρ : Env} {c : CAct} {o : Oper} (hρ : ∀ x ∈ o.op.operands, ∀ v, ρ x = some v → VR μ v (c.eval x)) {k : AV → AH → Option β} {r : β} (hk : opOf P ρ o H k = some r) {ro : Option Nat} {K : CAct → World → Prop} {Q : Exit → CAct → World → Prop}
    (hK : ∀ v H' μ' x w', k v H' = some r → Ext H μ H' μ' → VR μ' v x → Rep P B w0 G μ' H' w' → K (c.put o.dst x) w') : o.wpIn (Fz ro) 0 P c w K Q := by
  unfold opOf at hk
  cases hb : isBar o.op with
  | true =>
    rw [hb] at hk
    simp only [cond_true] at hk
    obtain ⟨v, H', w', μ', x, res, g1, g2, g3, g4, g5, g6⟩ := bar_sound h hρ hk
    exact wpIn_of_run (bar_noDefer hk) g2 g3 (hK v H' μ' x w' g1 g4 g5 g6)
  | false =>
    rw [hb] at hk
    simp only [cond_false] at hk
    cases hal : isAlloc o.op with
    | true =>
      rw [hal] at hk
      simp only [cond_true] at hk
      split at hk
      · rename_i e cs f hmk
        cases hbad : H.res.contains e with
        | true => rw [hbad] at hk; cases hk
        | false =>
        rw [hbad] at hk
        simp only [cond_false] at hk
        obtain ⟨obj, N, x, g1, g2, g3⟩ := alloc_sound (R := G.res) hρ hmk (by rw [← h.resd]; exact hbad) w
        rw [newCells_eq] at hk
        exact wpIn_of_run (alloc_noDefer hmk) g1 (.inl rfl) (hK _ _ _ x _ hk (.add (h.notYet (Nat.le_refl _)) (Nat.le_succ _)) (g3 _ _ (if_pos rfl)) (h.make (m := .cells e cs) (g2 _)))
      · rename_i kt f hmk
        obtain ⟨obj, N, x, g1, g2, g3⟩ := alloc_sound (R := G.res) hρ hmk rfl w
        rw [newObj_eq] at hk
        exact wpIn_of_run (alloc_noDefer hmk) g1 (.inl rfl) (hK _ _ _ x _ hk (.add (h.notYet (Nat.le_refl _)) (Nat.le_succ _)) (g3 _ _ (if_pos rfl)) (h.make (m := .map kt) (g2 _)))
      · cases hk
    | false =>
      rw [hal] at hk
      simp only [cond_false] at hk
      split at hk
      · rename_i v hq
        obtain ⟨x, g1, g2⟩ := quiet_sound h hρ hq
        have hk' : k v H = some r := by
          cases hp : plainOp o.op with
          | true => rw [hp] at hk; exact hk
          | false => rw [hp] at hk; simpa [ok] using hk
        exact wpIn_of_run (quiet_noDefer hq) g1 (.inl rfl) (hK v H μ x w hk' (.refl H μ) g2 h)
      · cases hk

theorem stepE_wp {β : Type} {self : Cb} (hN : NamesOK P) (hC : CallOK P B w0 G self) (hR : RoundOK P B w0 G self) (h : Rep P B w0 G μ H w) {ρ : Env} {c : CAct} {o : Oper} (hρ : ∀ x ∈ o.op.operands, ∀ v, ρ x = some v → VR μ v (c.eval x)) {k : AV → AH → Option β} {r : β}
    (hk : stepE P self ρ o H k = some r) {ro : Option Nat} {K : CAct → World → Prop} {Q : Exit → CAct → World → Prop}
    (hK : ∀ v H' μ' x w', k v H' = some r → Ext H μ H' μ' → VR μ' v x → Rep P B w0 G μ' H' w' → K (c.put o.dst x) w') : o.wpIn (Fz ro) 0 P c w K Q := by
  unfold stepE at hk
  split at hk
  · rename_i f args at' hop
    have hd : ∀ q, o.op ≠ .defer q := by intro q; rw [hop]; simp
    have hsem : o.semAt (Fz ro).round c.eval = execOp c.eval o := Oper.semAt_eq _ _ _ hd
    split at hk
    · rename_i g fs cs xs hf hxs
      split at hk
      · rename_i v H' hcall
        simp only [ok, AV.force_eq] at hk
        obtain ⟨⟨fn, hfn, hbody⟩, hcalls⟩ := hC.2 _ _ _ _ _ hcall
        obtain ⟨us, vs, hev, hus, hvs⟩ := hρ f (by rw [hop]; simp [Op.operands, Call.operands]) _ hf
        have hargs : LR μ xs (args.map c.eval).toList := by
          have := allOf_LR (ρc := c.eval) (fun x hx v hv => hρ x (by rw [hop]; simp [Op.operands, Call.operands]; exact .inr (by simpa using hx)) v hv) hxs
          rw [Array.toList_map]; exact this
        have hall : LR μ (fs.app (xs.app cs)) ((us ++ args.map c.eval) ++ vs).toList := by
          rw [Array.append_assoc]
          exact allOf_app hus (allOf_app hargs hvs)
        have hrun : (execOp c.eval o).run P w = .ok (.enter g ((us ++ args.map c.eval) ++ vs)) w := by
          have hbn : fn.body ≠ none := by intro q; rw [q] at hbody; simp at hbody
          unfold execOp
          rw [hop]
          simp only [resolve, hev, Deferred.ofValue, Sem.run_bind, Sem.run_pure, Result.andThen_ok, invoke, callFunc, run_program, hfn, hN g fn hfn hbody, Bool.false_eq_true, if_false]
          have : fn.body.isNone = false := by cases hq : fn.body <;> simp_all
          rw [this]; rfl
        refine ⟨fun f _ => Fz_fn ro f, ?_⟩
        rw [hsem, hrun]
        exact ⟨Fz_depth ro, Fz_calls ((hcalls μ w _ h hall).mono (fun e w' q => by obtain ⟨x, μ', he, g1, g2, g3⟩ := q; subst he; exact hK v H' μ' x w' hk g1 g2 g3))⟩
      · cases hk
    · rename_i l xs hf hxs
      split at hk
      · rename_i v H' hround
        simp only [ok, AV.force_eq] at hk
        obtain ⟨b, N, hm, hev⟩ := hρ f (by rw [hop]; simp [Op.operands, Call.operands]) _ hf
        have hargs : LR μ xs (args.map c.eval).toList := by
          have := allOf_LR (ρc := c.eval) (fun x hx v hv => hρ x (by rw [hop]; simp [Op.operands, Call.operands]; exact .inr (by simpa using hx)) v hv) hxs
          rw [Array.toList_map]; exact this
        obtain ⟨L, hL, hsz, hrd⟩ := hR _ _ _ _ _ hround μ w b N (args.map c.eval) h hm hargs
        have hrun : (execOp c.eval o).run P w = .ok (.round b L.fn ((L.params.zip (args.map c.eval)).foldl (fun tmps (t, a) => tmps.setIfInBounds t a) L.tmps) L.assign L.body) w := by
          unfold execOp
          rw [hop]
          have hget : (Instr.getLoop b).run P w = .ok L w := by simp [Instr.getLoop, getObj, Sem.run, hL]
          simp only [resolve, hev, Deferred.ofValue, Sem.run_bind, Sem.run_pure, Result.andThen_ok, invoke, Instr.yield, hget]
          have : ¬ ((#[] : Array Value) ++ args.map c.eval).size ≠ L.params.size := by simpa using hsz
          rw [if_neg this]
          simp
        refine ⟨fun f _ => Fz_fn ro f, ?_⟩
        rw [hsem, hrun]
        exact ⟨Fz_depth ro, Fz_rounds (hrd.mono (fun e w' q => by obtain ⟨x, μ', he, g1, g2, g3⟩ := q; subst he; exact hK v H' μ' x w' hk g1 g2 g3))⟩
      · cases hk
    · cases hk
  · exact opOf_wp h hρ hk hK

/-- Whether an operation is wanted. -/
theorem wanted_rel {a : Act} {c : CAct} (ha : TR μ a.nt a.T c.tmps) {ops : Array Oper} {o : Oper} {b : Bool} (hw : wantedA ops a o = some b) : Region.wanted o (yielded ops c.tmps) = b := by
  unfold wantedA at hw
  unfold Region.wanted
  split at hw
  · rename_i hg; simp at hw; subst hw; rw [hg]
  · rename_i j want hg
    rw [hg]
    simp only [yielded]
    split at hw
    · rename_i hd; simp at hw; subst hw; rw [hd]; simp
    · rename_i d hd
      rw [hd]
      simp only [Option.bind_some]
      split at hw
      · rename_i q hq
        simp at hw; subst hw
        have hv : c.tmps.getD d undef = .bool q := ha.2 d _ hq
        have hlt : c.tmps[d]? = some (.bool q) := by
          rw [Array.getD_eq_getD_getElem?] at hv
          cases hcd : c.tmps[d]? with
          | none => rw [hcd] at hv; simp [undef] at hv
          | some x => rw [hcd] at hv; simpa using hv
        rw [hlt]
        simp [beqB_iff]
      · rename_i hq
        simp at hw; subst hw
        have hv : c.tmps.getD d undef = .tuple #[] := ha.2 d _ hq
        rw [Array.getD_eq_getD_getElem?] at hv
        cases hcd : c.tmps[d]? with
        | none => simp
        | some x => rw [hcd] at hv; simp at hv; subst hv; simp
      · cases hw

theorem defers_sound {self : Cb} (hN : NamesOK P) (hS : StillOK P self) {ρ : Env} {c : CAct} {o : Oper} (hρ : ∀ x ∈ o.op.operands, ∀ v, ρ x = some v → VR μ v (c.eval x)) (h : defers self ρ o.op = true) :
    ∃ d, (∀ w, (execOp c.eval o).run P w = .ok (.defer d) w) ∧ StillD P d := by
  unfold defers at h
  split at h
  · rename_i f args at' hop
    split at h
    · rename_i g fs cs hf
      simp only [Bool.and_eq_true] at h
      obtain ⟨⟨fn, hfn, hbody⟩, hst⟩ := hS g h.2
      obtain ⟨us, vs, hev, hus, hvs⟩ := hρ f (by rw [hop]; simp [Op.operands, Call.operands]) _ hf
      refine ⟨{ target := .fn (.func g) vs, args := us ++ args.map c.eval }, ?_, g, vs, rfl, ?_, fun w => hst _ w⟩
      · intro w
        unfold execOp
        rw [hop]
        simp only [resolve, hev, Deferred.ofValue, Sem.run_bind, Sem.run_pure, Result.andThen_ok]
      · intro w
        have : fn.body.isNone = false := by cases hq : fn.body <;> simp_all
        simp only [invoke, callFunc, Sem.run_bind, run_program, Result.andThen_ok, hfn, hN g fn hfn hbody, Bool.false_eq_true, if_false, this]
        rfl
    · cases h
  · cases h

theorem runOps_wp {self : Cb} (hN : NamesOK P) (hC : CallOK P B w0 G self) (hR : RoundOK P B w0 G self) {ops : Array Oper} {top : Bool} {ro : Option Nat} (htop : top = true → ro = none) {Q : Exit → CAct → World → Prop} : ∀ (l : List Nat) (a : Act) (H : AH) (c : CAct) (μ : Mu) (w : World) (a' : Act) (H' : AH),
    runOps P G self top ops l a H = some (a', H') → Rep P B w0 G μ H w → ActRel P μ a c → (∀ c' μ' w', Ext H μ H' μ' → ActRel P μ' a' c' → Rep P B w0 G μ' H' w' → Q .normal c' w') → wpOpsIn (Fz ro) 0 P ops Q l c w
  | [], a, H, c, μ, w, a', H', hr, h, ha, hQ => by
    simp [runOps] at hr
    obtain ⟨rfl, rfl⟩ := hr
    exact hQ c μ w (.refl _ μ) ha h
  | i :: r, a, H, c, μ, w, a', H', hr, h, ha, hQ => by
    simp only [runOps] at hr
    simp only [wpOpsIn]
    split at hr
    · cases hr
    · rename_i o ho
      rw [ho]
      simp only
      split at hr
      · rename_i hw
        rw [wanted_rel ha.1 hw]
        simp only [if_true]
        cases hdf : top && defers self (a.env G) o.op with
        | true =>
          rw [hdf] at hr
          simp only [cond_true] at hr
          simp only [Bool.and_eq_true] at hdf
          have hro := htop hdf.1
          subst hro
          obtain ⟨d, hd1, hd2⟩ := defers_sound hN hC.1 (fun x _ v hv => env_rel h ha.1 hv) hdf.2
          refine ⟨fun f _ => Fz_fn none f, ?_⟩
          rw [show Oper.semAt (Fz none).round c.eval o = execOp c.eval o from rfl, hd1 w, Oper.uponIn_defer]
          obtain ⟨a1, g5, g6, _, _⟩ := put_some hr ha (x := undef) rfl
          refine runOps_wp hN hC hR htop r _ H _ μ w a' H' g5 h ?_ hQ
          have e : ({ c with defers := d :: c.defers } : CAct).put o.dst undef = { c.put o.dst undef with defers := d :: (c.put o.dst undef).defers } := by
            cases o.dst <;> rfl
          rw [e]
          exact ⟨g6.1, d, _, rfl, hd2, g6.2⟩
        | false =>
        rw [hdf] at hr
        simp only [cond_false] at hr
        refine stepE_wp hN hC hR h (fun x _ v hv => env_rel h ha.1 hv) hr ?_
        intro v H1 μ1 x w1 g1 g2 g3 g4
        obtain ⟨a1, g5, g6, _, _⟩ := put_some g1 (ha.mono g2.1) g3
        exact runOps_wp hN hC hR htop r a1 H1 _ μ1 w1 a' H' g5 g4 g6 (fun c' μ' w' q1 q2 q3 => hQ c' μ' w' (g2.trans q1) q2 q3)
      · rename_i hw
        rw [wanted_rel ha.1 hw]
        simp only [Bool.false_eq_true, if_false]
        refine ⟨fun f _ => Fz_fn ro f, ?_⟩
        obtain ⟨a1, g5, g6, _, _⟩ := put_some hr ha (x := undef) rfl
        exact runOps_wp hN hC hR htop r a1 H _ μ w a' H' g5 h g6 hQ
      · cases hr

end
end Go.Eng

namespace Go.Eng
open Go.RowKit

theorem maskL_spec (bs : List Nat) : ∀ (l : List Edge) (j : Nat), (maskL bs l).testBit j = true → ∃ e ∈ l, Region.binds .any e = true ∧ (j = e.on ∨ (bsAt bs e.on).testBit j = true)
  | [], j, h => by simp [maskL] at h
  | e :: r, j, h => by
    simp only [maskL] at h
    cases hb : Region.binds .any e with
    | false =>
      rw [hb] at h
      obtain ⟨e', h1, h2⟩ := maskL_spec bs r j h
      exact ⟨e', by simp [h1], h2⟩
    | true =>
      rw [hb] at h
      simp only [cond_true, Nat.testBit_or, Bool.or_eq_true] at h
      rcases h with (h | h) | h
      · rw [Nat.testBit_two_pow] at h
        exact ⟨e, by simp, hb, .inl (of_decide_eq_true h).symm⟩
      · exact ⟨e, by simp, hb, .inr h⟩
      · obtain ⟨e', h1, h2⟩ := maskL_spec bs r j h
        exact ⟨e', by simp [h1], h2⟩

/-- What a plan says. -/
structure PlanOK (ops : Array Oper) (p : Plan) : Prop where
  mask : ∀ i o, ops[i]? = some o → ∀ j, (bsAt p.bs i).testBit j = true → ∃ e ∈ o.after.toList, Region.binds .any e = true ∧ (j = e.on ∨ (bsAt p.bs e.on).testBit j = true)
  lower : ∀ i o, ops[i]? = some o → ∀ e ∈ o.after.toList, Region.binds .any e = true → e.on < i
  guard : ∀ i o j want, ops[i]? = some o → o.guard = some (j, want) → (bsAt p.bs i).testBit j = true
  dsts : ∀ (i j : Nat) (o q : Oper) (d : Tmp), ops[i]? = some o → ops[j]? = some q → o.dst = some d → q.dst = some d → i = j
  reads : ∀ (i j : Nat) (o q : Oper) (d : Tmp), ops[i]? = some o → ops[j]? = some q → q.dst = some d → d ∈ tmpsOf o → i = j ∨ (bsAt p.bs i).testBit j = true ∨ (bsAt p.bs j).testBit i = true
  bars : p.bars = barsOf ops
  chain : chained p.bs p.bars = true

theorem plan_ok {ops : Array Oper} {p : Plan} (h : planOf ops = some p) : PlanOK ops p := by
  unfold planOf at h
  simp only at h
  cases hc : ((List.range ops.size).all (fun i => maskOk ops (masks ops.toList []) i && guardOk ops (masks ops.toList []) i && (List.range ops.size).all fun j => apartAt ops (masks ops.toList []) i j) && chained (masks ops.toList []) (barsOf ops)) with
  | false => rw [hc] at h; cases h
  | true =>
    rw [hc] at h
    simp only [cond_true, Option.some.injEq] at h
    subst h
    simp only [Bool.and_eq_true, List.all_eq_true, List.mem_range] at hc
    obtain ⟨hall, hchain⟩ := hc
    have lt : ∀ {i : Nat} {o : Oper}, ops[i]? = some o → i < ops.size := fun q => (Array.getElem?_eq_some_iff.1 q).1
    have mk : ∀ i o, ops[i]? = some o → bsAt (masks ops.toList []) i = maskL (masks ops.toList []) o.after.toList ∧ ∀ e ∈ o.after.toList, Region.binds .any e = true → e.on < i := by
      intro i o ho
      have := (hall i (lt ho)).1.1
      simp only [maskOk, ho, Bool.and_eq_true, List.all_eq_true, Bool.or_eq_true, Bool.not_eq_true'] at this
      refine ⟨(beq_iff _ _).1 this.1, fun e he hb => ?_⟩
      rcases this.2 e he with q | q
      · rw [hb] at q; cases q
      · exact (blt_iff _ _).1 q
    refine ⟨?_, fun i o ho => (mk i o ho).2, ?_, ?_, ?_, rfl, hchain⟩
    · intro i o ho j hj
      simp only at hj
      rw [(mk i o ho).1] at hj
      exact maskL_spec _ _ _ hj
    · intro i o j want ho hg
      have := (hall i (lt ho)).1.2
      simpa [guardOk, ho, hg] using this
    · intro i j o q d ho hq hd hd'
      have := (hall i (lt ho)).2 j (lt hq)
      simp only [apartAt, ho, hq, hd', hd, Bool.or_eq_true, Bool.and_eq_true, Bool.not_eq_true'] at this
      rcases this with q | ⟨q, _⟩
      · exact (beq_iff _ _).1 q
      · rw [(beq_iff d d).2 rfl] at q; cases q
    · intro i j o q d ho hq hd' hmem
      have := (hall i (lt ho)).2 j (lt hq)
      simp only [apartAt, ho, hq, hd', Bool.or_eq_true, Bool.and_eq_true, Bool.not_eq_true'] at this
      rcases this with q | ⟨_, (q | q) | q⟩
      · exact .inl ((beq_iff _ _).1 q)
      · have : (tmpsOf o).contains d = true := by simpa using hmem
        rw [this] at q; cases q
      · exact .inr (.inl q)
      · exact .inr (.inr q)

theorem getV_cons_ne {j i : Nat} {x : AV × Option Nat} {r : Vals} (h : j ≠ i) : getV ((j, x) :: r) i = getV r i := by
  simp only [getV]
  rw [(beq_false j i).2 h]; rfl
theorem getV_cons_eq {i : Nat} {x : AV × Option Nat} {r : Vals} : getV ((i, x) :: r) i = some x := by
  simp only [getV]
  rw [(beq_iff i i).2 rfl]; rfl

theorem writerOf_some {ops : Array Oper} {m : Nat} {t j : Nat} (h : writerOf ops m t = some j) : j < ops.size ∧ m.testBit j = true ∧ ∃ o, ops[j]? = some o ∧ o.dst = some t := by
  unfold writerOf at h
  have h1 := List.find?_some h
  have h2 := List.mem_of_find?_eq_some h
  simp only [Bool.and_eq_true] at h1
  refine ⟨by simpa using h2, h1.1, ?_⟩
  have h3 := h1.2
  split at h3
  · rename_i d hd
    have hdt := (beq_iff _ _).1 h3
    subst hdt
    rw [Option.bind_eq_some_iff] at hd
    obtain ⟨o, ho, hod⟩ := hd
    exact ⟨o, ho, hod⟩
  · cases h3
theorem writerOf_none {ops : Array Oper} {m t : Nat} (h : writerOf ops m t = none) {j : Nat} {o : Oper} (ho : ops[j]? = some o) (hd : o.dst = some t) : m.testBit j = false := by
  unfold writerOf at h
  rw [List.find?_eq_none] at h
  have hj : j < ops.size := (Array.getElem?_eq_some_iff.1 ho).1
  have := h j (by simpa using hj)
  rw [ho] at this
  simp only [Option.bind_some, hd] at this
  rw [(beq_iff t t).2 rfl] at this
  simpa using this

section
variable {P : Program} {B : Nat} {w0 : World} {G : Sett} {self : Cb} {ops : Array Oper} {p : Plan} {T : Tr AV}

abbrev Did (listed : Array Bool) (i : Nat) : Prop := listed.getD i false = true

/-- What holds between two operations of the drawn order. -/
structure Inv (P : Program) (B : Nat) (w0 : World) (G : Sett) (sf : Cb) (ops : Array Oper) (p : Plan) (T : Tr AV) (nt : Nat) (ds : List Mark) (H0 : AH) (μ0 : Mu) (valsF : Vals) (HF : AH)
    (es : List Nat) (prev : Option Nat) (stage : Nat) (vals : Vals) (H : AH) (listed : Array Bool) (c : CAct) (w : World) (μ : Mu) : Prop where
  rep : Rep P B w0 G μ H w
  ext : Ext H0 μ0 H μ
  defers : DR P μ ds c.defers
  size : c.tmps.size = nt
  lsize : listed.size = ops.size
  closed : ∀ i j, Did listed i → (bsAt p.bs i).testBit j = true → Did listed j
  tmpsW : ∀ j o d, Did listed j → ops[j]? = some o → o.dst = some d → ∃ v id, getV vals j = some (v, id) ∧ VR μ v (c.tmps.getD d undef)
  tmps0 : ∀ t, (∀ j o, Did listed j → ops[j]? = some o → o.dst ≠ some t) → ∀ v, T.get t = some v → VR μ v (c.tmps.getD t undef)
  split : ∃ done, p.bars = done ++ es ∧ done.length = stage ∧ ∀ e ∈ done, Did listed e
  left : ∀ e ∈ es, ¬ Did listed e
  prevL : ∀ e, prev = some e → Did listed e
  ids : ∀ j v id, getV vals j = some (v, some id) → H0.next ≤ id ∧ id < H.next ∧ (¬ Did listed j → μ id = none)
  inj : ∀ i j v v' id, getV vals i = some (v, some id) → getV vals j = some (v', some id) → i = j
  check : checkStage P G ops p T vals H stage prev = true
  run : runBars P G sf ops p T es stage vals H = some (valsF, HF)

theorem did_set {listed : Array Bool} {i j : Nat} : Did (listed.setIfInBounds i true) j → (j = i ∨ Did listed j) := by
  intro h
  by_cases hij : j = i
  · exact .inl hij
  · right
    unfold Did at *
    simpa [Array.getD_eq_getD_getElem?, Array.getElem?_setIfInBounds, Ne.symm hij] using h
theorem did_set_old {listed : Array Bool} {i j : Nat} (h : Did listed j) : Did (listed.setIfInBounds i true) j := by
  unfold Did at *
  rw [Array.getD_eq_getD_getElem?, Array.getElem?_setIfInBounds]
  split
  · rename_i hij
    subst hij
    have hlt : i < listed.size := by
      refine Decidable.byContradiction fun q => ?_
      rw [Array.getD_eq_getD_getElem?, Array.getElem?_eq_none (by omega)] at h
      simp at h
    simp [hlt]
  · rw [Array.getD_eq_getD_getElem?] at h; exact h
theorem did_set_new {listed : Array Bool} {i : Nat} (h : i < listed.size) : Did (listed.setIfInBounds i true) i := by
  simp [Did, h]

/-- What a stage adds. -/
structure Added (μ : Mu) (vals : Vals) (H : AH) (vals' : Vals) (H' : AH) : Prop where
  old : ∀ j x, getV vals j = some x → getV vals' j = some x
  new : ∀ j v id, getV vals' j = some (v, some id) → getV vals j = some (v, some id) ∨ (H.next ≤ id ∧ id < H'.next)
  inj : (∀ j v id, getV vals j = some (v, some id) → id < H.next) → (∀ i j v v' id, getV vals i = some (v, some id) → getV vals j = some (v', some id) → i = j) →
    ∀ i j v v' id, getV vals' i = some (v, some id) → getV vals' j = some (v', some id) → i = j
  next : H.next ≤ H'.next
  rep : ∀ w, Rep P B w0 G μ H w → Rep P B w0 G μ H' w

theorem Added.refl (μ : Mu) (vals : Vals) (H : AH) : Added (P := P) (B := B) (w0 := w0) (G := G) μ vals H vals H :=
  ⟨fun _ _ h => h, fun _ _ _ h => .inl h, fun _ h => h, Nat.le_refl _, fun _ h => h⟩

theorem Added.trans {μ : Mu} {v1 v2 v3 : Vals} {H1 H2 H3 : AH} (h : Added (P := P) (B := B) (w0 := w0) (G := G) μ v1 H1 v2 H2) (k : Added (P := P) (B := B) (w0 := w0) (G := G) μ v2 H2 v3 H3) : Added (P := P) (B := B) (w0 := w0) (G := G) μ v1 H1 v3 H3 where
  old := fun j x q => k.old j x (h.old j x q)
  new := by
    intro j v id q
    rcases k.new j v id q with q | q
    · rcases h.new j v id q with q | q
      · exact .inl q
      · exact .inr ⟨q.1, Nat.lt_of_lt_of_le q.2 k.next⟩
    · exact .inr ⟨Nat.le_trans h.next q.1, q.2⟩
  inj := by
    intro hid hinj
    refine k.inj ?_ (h.inj hid hinj)
    intro j v id q
    rcases h.new j v id q with q | q
    · exact Nat.lt_of_lt_of_le (hid j v id q) h.next
    · exact q.2
  next := Nat.le_trans h.next k.next
  rep := fun w q => k.rep w (h.rep w q)

theorem added_plain (μ : Mu) {vals : Vals} {H : AH} {i : Nat} {v : AV} (hi : getV vals i = none) : Added (P := P) (B := B) (w0 := w0) (G := G) μ vals H ((i, v, none) :: vals) H where
  old := by
    intro j x q
    by_cases hij : i = j
    · subst hij; rw [hi] at q; cases q
    · rw [getV_cons_ne hij]; exact q
  new := by
    intro j u id q
    by_cases hij : i = j
    · subst hij; rw [getV_cons_eq] at q; cases q
    · rw [getV_cons_ne hij] at q; exact .inl q
  inj := by
    intro _ hinj a b u u' id q1 q2
    by_cases h1 : i = a
    · subst h1; rw [getV_cons_eq] at q1; cases q1
    · by_cases h2 : i = b
      · subst h2; rw [getV_cons_eq] at q2; cases q2
      · rw [getV_cons_ne h1] at q1; rw [getV_cons_ne h2] at q2; exact hinj a b u u' id q1 q2
  next := Nat.le_refl _
  rep := fun _ h => h

theorem added_made (μ : Mu) {vals : Vals} {H : AH} {i : Nat} {v : AV} (m : Mk) (hi : getV vals i = none) : Added (P := P) (B := B) (w0 := w0) (G := G) μ vals H ((i, v, some H.next) :: vals) (H.made m) where
  old := by
    intro j x q
    by_cases hij : i = j
    · subst hij; rw [hi] at q; cases q
    · rw [getV_cons_ne hij]; exact q
  new := by
    intro j u id q
    by_cases hij : i = j
    · subst hij; rw [getV_cons_eq] at q; cases q; exact .inr ⟨Nat.le_refl _, by rw [made_next]; exact Nat.lt_succ_self _⟩
    · rw [getV_cons_ne hij] at q; exact .inl q
  inj := by
    intro hid hinj a b u u' id q1 q2
    by_cases h1 : i = a <;> by_cases h2 : i = b
    · omega
    · subst h1; rw [getV_cons_eq] at q1; cases q1
      rw [getV_cons_ne h2] at q2; have := hid b _ _ q2; omega
    · subst h2; rw [getV_cons_eq] at q2; cases q2
      rw [getV_cons_ne h1] at q1; have := hid a _ _ q1; omega
    · rw [getV_cons_ne h1] at q1; rw [getV_cons_ne h2] at q2; exact hinj a b u u' id q1 q2
  next := by rw [made_next]; exact Nat.le_succ _
  rep := fun w h => by
    cases m with
    | cells e cs => exact h.layCells e cs
    | map kt => exact h.layObj _ (by simp)

theorem runStage_added (μ : Mu) {stage : Nat} : ∀ (l : List Nat) (vals : Vals) (H : AH) (vals' : Vals) (H' : AH), runStage P G ops p T stage l vals H = some (vals', H') → Added (P := P) (B := B) (w0 := w0) (G := G) μ vals H vals' H'
  | [], vals, H, vals', H', h => by simp [runStage] at h; obtain ⟨rfl, rfl⟩ := h; exact .refl μ vals H
  | i :: r, vals, H, vals', H', h => by
    simp only [runStage] at h
    split at h
    · cases h
    · rename_i o ho
      cases hb : (isBar o.op || !Nat.beq (stageOf p i) stage) with
      | true => rw [hb] at h; exact runStage_added μ r _ _ _ _ h
      | false =>
        rw [hb] at h
        simp only [cond_false] at h
        cases hs : (getV vals i).isSome with
        | true => rw [hs] at h; cases h
        | false =>
          rw [hs] at h
          have hn : getV vals i = none := by cases hq : getV vals i <;> simp_all
          simp only [cond_false] at h
          split at h
          · split at h
            · split at h
              · rename_i e cs f hm
                cases hbad : H.res.contains e with
                | true => rw [hbad] at h; cases h
                | false =>
                rw [hbad] at h
                simp only [cond_false, AV.force_eq, newCells_eq] at h
                exact (added_made μ (.cells e cs) hn).trans (runStage_added μ r _ _ _ _ h)
              · rename_i kt f hm
                simp only [newObj_eq] at h
                exact (added_made μ (.map kt) hn).trans (runStage_added μ r _ _ _ _ h)
              · cases h
            · split at h
              · rename_i v hv
                simp only [AV.force_eq] at h
                exact (added_plain μ hn).trans (runStage_added μ r _ _ _ _ h)
              · cases h
          · exact (added_plain μ hn).trans (runStage_added μ r _ _ _ _ h)
          · cases h

theorem endStage_some {stage : Nat} {prev : Option Nat} {vals vals' : Vals} {H H' : AH} (h : endStage P G ops p T stage prev vals H = some (vals', H')) (μ : Mu) :
    Added (P := P) (B := B) (w0 := w0) (G := G) μ vals H vals' H' ∧ checkStage P G ops p T vals' H' stage prev = true := by
  unfold endStage at h
  split at h
  · rename_i v1 H1 hr
    cases hc : checkStage P G ops p T v1 H1 stage prev with
    | false => rw [hc] at h; cases h
    | true =>
      rw [hc] at h
      simp at h
      obtain ⟨rfl, rfl⟩ := h
      exact ⟨runStage_added μ _ _ _ _ _ hr, hc⟩
  · cases h

end
end Go.Eng

namespace Go.Eng
open Go.RowKit

/-- How many numbers below n are not yet there. -/
def cntF (f : Nat → Bool) : Nat → Nat
  | 0 => 0
  | n + 1 => cntF f n + if f n = true then 0 else 1
theorem cntF_zero {f : Nat → Bool} : ∀ {n : Nat}, cntF f n = 0 → ∀ i, i < n → f i = true
  | n + 1, h, i, hi => by
    simp only [cntF] at h
    by_cases hn : f n = true
    · rcases Nat.lt_succ_iff_lt_or_eq.1 hi with q | rfl
      · exact cntF_zero (by omega) i q
      · exact hn
    · rw [if_neg hn] at h; omega
theorem cntF_set {f g : Nat → Bool} {i : Nat} (hf : f i ≠ true) (hg : g i = true) (ho : ∀ j, j ≠ i → g j = f j) : ∀ {n : Nat}, i < n → cntF g n + 1 = cntF f n
  | n + 1, hi => by
    simp only [cntF]
    rcases Nat.lt_succ_iff_lt_or_eq.1 hi with q | rfl
    · have := cntF_set hf hg ho q
      rw [ho n (by omega)]; omega
    · have : ∀ m, m ≤ i → cntF g m = cntF f m := by
        intro m
        induction m with
        | zero => intro _; rfl
        | succ m ih => intro hm; simp only [cntF]; rw [ih (by omega), ho m (by omega)]
      rw [this i (Nat.le_refl _), if_pos hg, if_neg hf]

section
variable {P : Program} {B : Nat} {w0 : World} {G : Sett} {self : Cb} {ops : Array Oper} {p : Plan} {T : Tr AV}

theorem ready_spec {listed : Array Bool} (hs : listed.size = ops.size) {i : Nat} (h : i ∈ Region.ready .any ops listed) : i < ops.size ∧ ¬ Did listed i ∧ ∃ o, ops[i]? = some o ∧ ∀ e ∈ o.after.toList, Region.binds .any e = true → Did listed e.on := by
  unfold Region.ready at h
  simp only [List.mem_filter, List.mem_range, Bool.and_eq_true, Bool.not_eq_true'] at h
  obtain ⟨hi, h1, h2⟩ := h
  refine ⟨hi, ?_, ?_⟩
  · intro q
    unfold Did at q
    have hlt : i < listed.size := by omega
    rw [Array.getD_eq_getD_getElem?, Array.getElem?_eq_getElem hlt] at q h1
    simp at q h1
    rw [q] at h1; cases h1
  · have ho : ops[i]? = some ops[i] := Array.getElem?_eq_getElem hi
    refine ⟨ops[i], ho, ?_⟩
    rw [ho] at h2
    simp only [Option.map_some, Option.getD_some, Array.all_eq_true_iff_forall_mem, Bool.or_eq_true, Bool.not_eq_true'] at h2
    intro e he hb
    rcases h2 e (by simpa using he) with q | q
    · rw [hb] at q; cases q
    · exact q

theorem ready_nil (hp : PlanOK ops p) {listed : Array Bool} (hs : listed.size = ops.size) (h : Region.ready .any ops listed = []) : ∀ i, i < ops.size → Did listed i := by
  intro i
  induction i using Nat.strongRecOn with
  | ind i ih =>
    intro hi
    refine Decidable.byContradiction fun hnd => ?_
    have ho : ops[i]? = some ops[i] := Array.getElem?_eq_getElem hi
    have : i ∈ Region.ready .any ops listed := by
      unfold Region.ready
      simp only [List.mem_filter, List.mem_range, Bool.and_eq_true, Bool.not_eq_true']
      refine ⟨hi, ?_, ?_⟩
      · have hlt : i < listed.size := by omega
        unfold Did at hnd
        rw [Array.getD_eq_getD_getElem?, Array.getElem?_eq_getElem hlt] at hnd ⊢
        simpa using hnd
      · rw [ho]
        simp only [Option.map_some, Option.getD_some, Array.all_eq_true_iff_forall_mem, Bool.or_eq_true, Bool.not_eq_true']
        intro e he
        cases hb : Region.binds .any e with
        | false => exact .inl rfl
        | true =>
          have hlow := hp.lower i _ ho e (by simpa using he) hb
          exact .inr (ih e.on hlow (by omega))
    rw [h] at this; cases this

theorem layVals_spec {vals : Vals} {nt : Nat} : ∀ (l : List Nat) (T T' : Tr AV), layVals ops vals nt l T = some T' →
    (∀ i ∈ l, ∃ o, ops[i]? = some o ∧ ∀ d, o.dst = some d → d < nt) ∧
    ∀ t v, T'.get t = some v → (∃ j ∈ l, ∃ o id, ops[j]? = some o ∧ o.dst = some t ∧ getV vals j = some (v, id)) ∨ ((∀ j ∈ l, ∀ o, ops[j]? = some o → o.dst ≠ some t) ∧ T.get t = some v)
  | [], T, T', h => by
    simp [layVals] at h; subst h
    exact ⟨by simp, fun t v q => .inr ⟨by simp, q⟩⟩
  | i :: r, T, T', h => by
    simp only [layVals] at h
    split at h
    · cases h
    · rename_i o ho
      split at h
      · rename_i d v id hd hv
        cases hlt : Nat.blt d nt with
        | false => rw [hlt] at h; cases h
        | true =>
          rw [hlt] at h
          simp only [cond_true, Tr.setK_eq] at h
          obtain ⟨h1, h2⟩ := layVals_spec r _ _ h
          refine ⟨?_, ?_⟩
          · intro j hj
            rcases List.mem_cons.1 hj with rfl | hj
            · exact ⟨o, ho, fun d' hd' => by rw [hd] at hd'; cases hd'; exact (blt_iff _ _).1 hlt⟩
            · exact h1 j hj
          · intro t u q
            rcases h2 t u q with ⟨j, hj, o', id', g1, g2, g3⟩ | ⟨g1, g2⟩
            · exact .inl ⟨j, by simp [hj], o', id', g1, g2, g3⟩
            · rcases Tr.get_set deep T d (some v) t u g2 with ⟨rfl, q'⟩ | ⟨hne, q'⟩
              · cases q'; exact .inl ⟨i, by simp, o, id, ho, hd, hv⟩
              · refine .inr ⟨?_, q'⟩
                intro j hj o' ho'
                rcases List.mem_cons.1 hj with rfl | hj
                · rw [ho] at ho'; cases ho'; rw [hd]; intro e; cases e; exact hne rfl
                · exact g1 j hj o' ho'
      · rename_i x hd hv
        obtain ⟨h1, h2⟩ := layVals_spec r _ _ h
        refine ⟨?_, ?_⟩
        · intro j hj
          rcases List.mem_cons.1 hj with rfl | hj
          · exact ⟨o, ho, fun d' hd' => by rw [hd] at hd'; cases hd'⟩
          · exact h1 j hj
        · intro t u q
          rcases h2 t u q with ⟨j, hj, o', id', g1, g2, g3⟩ | ⟨g1, g2⟩
          · exact .inl ⟨j, by simp [hj], o', id', g1, g2, g3⟩
          · refine .inr ⟨?_, g2⟩
            intro j hj o' ho'
            rcases List.mem_cons.1 hj with rfl | hj
            · rw [ho] at ho'; cases ho'; rw [hd]; simp
            · exact g1 j hj o' ho'
      · cases h

theorem put_size (c : CAct) (dst : Option Tmp) (x : Value) : (c.put dst x).tmps.size = c.tmps.size := by
  cases dst <;> simp [Go.Act.put]
theorem put_defers (c : CAct) (dst : Option Tmp) (x : Value) : (c.put dst x).defers = c.defers := by
  cases dst <;> simp [Go.Act.put]
theorem put_other {c : CAct} {dst : Option Tmp} {x : Value} {t : Nat} (h : dst ≠ some t) : (c.put dst x).tmps.getD t undef = c.tmps.getD t undef := by
  cases dst with
  | none => rfl
  | some d =>
    have : d ≠ t := by intro e; subst e; exact h rfl
    simp [Go.Act.put, Array.getD_eq_getD_getElem?, this]
theorem put_same {c : CAct} {d : Nat} {x : Value} (h : d < c.tmps.size) : (c.put (some d) x).tmps.getD d undef = x := by
  simp [Go.Act.put, Array.getD_eq_getD_getElem?, h]

section
variable {nt : Nat} {ds : List Mark} {H0 : AH} {μ0 : Mu} {valsF : Vals} {HF : AH} {es : List Nat} {prev : Option Nat} {stage : Nat} {vals : Vals} {H : AH} {listed : Array Bool} {c : CAct} {w : World} {μ : Mu}

/-- The next state, what is the same at each kind of operation. -/
theorem Inv.next (hp : PlanOK ops p) (hI : Inv P B w0 G self ops p T nt ds H0 μ0 valsF HF es prev stage vals H listed c w μ) {i : Nat} {o : Oper} (ho : ops[i]? = some o) (hnd : ¬ Did listed i)
    (hready : ∀ j, (bsAt p.bs i).testBit j = true → Did listed j) (hdst : ∀ d, o.dst = some d → d < nt) {es' : List Nat} {prev' : Option Nat} {stage' : Nat} {vals' : Vals} {H' : AH} {μ' : Mu} {w' : World} {v : AV} {id : Option Nat} {x : Value}
    (hold : ∀ j y, getV vals j = some y → getV vals' j = some y) (hv : getV vals' i = some (v, id)) (hx : VR μ' v x) (hmono : μ.le μ')
    (rep : Rep P B w0 G μ' H' w') (ext : Ext H0 μ0 H' μ') (split : ∃ done, p.bars = done ++ es' ∧ done.length = stage' ∧ ∀ e ∈ done, Did (listed.setIfInBounds i true) e) (left : ∀ e ∈ es', ¬ Did (listed.setIfInBounds i true) e)
    (prevL : ∀ e, prev' = some e → Did (listed.setIfInBounds i true) e) (ids : ∀ j v id, getV vals' j = some (v, some id) → H0.next ≤ id ∧ id < H'.next ∧ (¬ Did (listed.setIfInBounds i true) j → μ' id = none))
    (inj : ∀ i j v v' id, getV vals' i = some (v, some id) → getV vals' j = some (v', some id) → i = j) (check : checkStage P G ops p T vals' H' stage' prev' = true) (run : runBars P G self ops p T es' stage' vals' H' = some (valsF, HF)) :
    Inv P B w0 G self ops p T nt ds H0 μ0 valsF HF es' prev' stage' vals' H' (listed.setIfInBounds i true) (c.put o.dst x) w' μ' where
  rep := rep
  ext := ext
  defers := by rw [put_defers]; exact hI.defers.mono hmono
  size := by rw [put_size]; exact hI.size
  lsize := by simp [hI.lsize]
  closed := by
    intro a j ha hj
    rcases did_set ha with rfl | ha
    · exact did_set_old (hready j hj)
    · exact did_set_old (hI.closed a j ha hj)
  tmpsW := by
    intro j q d hj hq hd
    by_cases hji : j = i
    · subst hji
      rw [ho] at hq; cases hq
      refine ⟨v, id, hv, ?_⟩
      rw [hd, put_same (by rw [hI.size]; exact hdst d hd)]
      exact hx
    · rcases did_set hj with e | hj
      · exact absurd e hji
      · obtain ⟨u, id', h1, h2⟩ := hI.tmpsW j q d hj hq hd
        refine ⟨u, id', hold j _ h1, ?_⟩
        rw [put_other (fun e => hji (hp.dsts j i q o d hq ho hd e))]
        exact h2.mono hmono
  tmps0 := by
    intro t ht u hu
    have hlt : i < listed.size := by rw [hI.lsize]; exact (Array.getElem?_eq_some_iff.1 ho).1
    rw [put_other (ht i o (did_set_new hlt) ho)]
    exact (hI.tmps0 t (fun j q hj hq => ht j q (did_set_old hj) hq) u hu).mono hmono
  split := split
  left := left
  prevL := prevL
  ids := ids
  inj := inj
  check := check
  run := run

/-- What an operation reads, when it is its turn. -/
theorem Inv.env (hp : PlanOK ops p) (hI : Inv P B w0 G self ops p T nt ds H0 μ0 valsF HF es prev stage vals H listed c w μ) {i : Nat} {o : Oper} (ho : ops[i]? = some o) (hnd : ¬ Did listed i)
    (hready : ∀ j, (bsAt p.bs i).testBit j = true → Did listed j) : ∀ x ∈ o.op.operands, ∀ v, envD G ops (bsAt p.bs i) T vals x = some v → VR μ v (c.eval x) := by
  intro x hx v hv
  cases x with
  | tmp t =>
    simp only [envD] at hv
    split at hv
    · rename_i j hj
      obtain ⟨_, hb, q, hq, hqd⟩ := writerOf_some hj
      obtain ⟨u, id, h1, h2⟩ := hI.tmpsW j q t (hready j hb) hq hqd
      rw [h1] at hv
      simp at hv; subst hv
      exact h2
    · rename_i hnone
      refine hI.tmps0 t ?_ v hv
      intro j q hj hq hqd
      have hmem : t ∈ tmpsOf o := by
        unfold tmpsOf
        rw [List.mem_filterMap]
        exact ⟨.tmp t, by simpa using hx, rfl⟩
      rcases hp.reads i j o q t ho hq hqd hmem with rfl | hb | hb
      · exact hnd hj
      · rw [writerOf_none hnone hq hqd] at hb; cases hb
      · exact hnd (hI.closed j i hj hb)
  | const u => exact ofVal_VR μ hv
  | global g =>
    simp only [envD] at hv
    cases hc : G.ids.contains g with
    | false => rw [hc] at hv; cases hv
    | true =>
      rw [hc] at hv
      simp at hv; subst hv
      obtain ⟨N, hN⟩ := hI.rep.glob g (by simpa using hc)
      exact ⟨g, N, hN, rfl⟩
  | func f =>
    simp [envD] at hv; subst hv
    exact ⟨#[], #[], rfl, rfl, rfl⟩

theorem Inv.wanted (hp : PlanOK ops p) (hI : Inv P B w0 G self ops p T nt ds H0 μ0 valsF HF es prev stage vals H listed c w μ) {i : Nat} {o : Oper} (ho : ops[i]? = some o)
    (hready : ∀ j, (bsAt p.bs i).testBit j = true → Did listed j) {b : Bool} (hw : wantedD ops vals o = some b) : Region.wanted o (yielded ops c.tmps) = b := by
  unfold wantedD at hw
  unfold Region.wanted
  split at hw
  · rename_i hg; simp at hw; subst hw; rw [hg]
  · rename_i j want hg
    rw [hg]
    simp only [yielded]
    have hj := hready j (hp.guard i o j want ho hg)
    split at hw
    · rename_i hd; simp at hw; subst hw; rw [hd]; simp
    · rename_i d hd
      rw [hd]
      simp only [Option.bind_some]
      rw [Option.bind_eq_some_iff] at hd
      obtain ⟨q, hq, hqd⟩ := hd
      obtain ⟨u, id, h1, h2⟩ := hI.tmpsW j q d hj hq hqd
      rw [h1] at hw
      split at hw
      · rename_i bb _ heq
        simp only [Option.some.injEq, Prod.mk.injEq] at heq
        obtain ⟨rfl, _⟩ := heq
        simp at hw; subst hw
        have hv : c.tmps.getD d undef = .bool bb := h2
        have hlt : c.tmps[d]? = some (.bool bb) := by
          rw [Array.getD_eq_getD_getElem?] at hv
          cases hcd : c.tmps[d]? with
          | none => rw [hcd] at hv; simp [undef] at hv
          | some x => rw [hcd] at hv; simpa using hv
        rw [hlt]
        simp [beqB_iff]
      · rename_i _ heq
        simp only [Option.some.injEq, Prod.mk.injEq] at heq
        obtain ⟨rfl, _⟩ := heq
        simp at hw; subst hw
        have hv : c.tmps.getD d undef = .tuple #[] := h2
        rw [Array.getD_eq_getD_getElem?] at hv
        cases hcd : c.tmps[d]? with
        | none => simp
        | some x => rw [hcd] at hv; simp at hv; subst hv; simp
      · cases hw

theorem stillMade_get {i : Nat} {m : Mk} (h : stillMade H i m = true) : H.objs.get i = some (m.obj i) := by
  unfold stillMade at h
  cases m with
  | cells e cs =>
    simp only at h
    split at h
    · rename_i fam ver e' cs' ho
      simp only [Bool.and_eq_true] at h
      obtain ⟨⟨⟨h1, h2⟩, h3⟩, h4⟩ := h
      rw [ho, (beq_iff _ _).1 h1, (beq_iff _ _).1 h2, ← (beq_iff _ _).1 h3, AV.beq_eq h4]; rfl
    · cases h
  | map kt =>
    simp only at h
    split at h
    · rename_i kt' es' ho
      simp only [Bool.and_eq_true] at h
      rw [ho, ← (beq_iff _ _).1 h.1, AV.beq_eq h.2]; rfl
    · cases h

end
end
end Go.Eng

namespace Go.Eng
open Go.RowKit

theorem chain_head {bs : List Nat} : ∀ {l : List Nat} {e : Nat} {done r : List Nat}, l = done ++ e :: r → chained bs l = true → ∀ f ∈ r, (bsAt bs f).testBit e = true
  | l, e, [], r, h, hc, f, hf => by
    subst h
    simp only [List.nil_append, chained, Bool.and_eq_true, List.all_eq_true] at hc
    exact hc.1 f hf
  | l, e, d :: done, r, h, hc, f, hf => by
    subst h
    simp only [List.cons_append, chained, Bool.and_eq_true] at hc
    exact chain_head rfl hc.2 f hf

section
variable {P : Program} {B : Nat} {w0 : World} {G : Sett} {self : Cb} {ops : Array Oper} {p : Plan} {T : Tr AV}

theorem mask_did (hp : PlanOK ops p) {listed : Array Bool} (hclosed : ∀ i j, Did listed i → (bsAt p.bs i).testBit j = true → Did listed j) {i : Nat} {o : Oper} (ho : ops[i]? = some o)
    (he : ∀ e ∈ o.after.toList, Region.binds .any e = true → Did listed e.on) : ∀ j, (bsAt p.bs i).testBit j = true → Did listed j := by
  intro j hj
  obtain ⟨e, h1, h2, h3⟩ := hp.mask i o ho j hj
  rcases h3 with rfl | h3
  · exact he e h1 h2
  · exact hclosed _ _ (he e h1 h2) h3

theorem any_wp (hN : NamesOK P) (hC : CallOK P B w0 G self) (hR : RoundOK P B w0 G self) (hp : PlanOK ops p) {nt : Nat} {ds : List Mark} {H0 : AH} {μ0 : Mu} {valsF : Vals} {HF : AH} {T' : Tr AV} {ro : Option Nat} {Q : Exit → CAct → World → Prop}
    (hlay : layVals ops valsF nt (List.range ops.size) T = some T') (hQ : ∀ c' μ' w', Ext H0 μ0 HF μ' → ActRel P μ' { T := T', nt, ds } c' → Rep P B w0 G μ' HF w' → Q .normal c' w') :
    ∀ (fuel : Nat) (es : List Nat) (prev : Option Nat) (stage : Nat) (vals : Vals) (H : AH) (listed : Array Bool) (c : CAct) (w : World) (μ : Mu),
      Inv P B w0 G self ops p T nt ds H0 μ0 valsF HF es prev stage vals H listed c w μ → cntF (fun i => listed.getD i false) ops.size ≤ fuel → wpAnyIn (Fz ro) 0 P .any ops Q fuel listed c w := by
  obtain ⟨hdst, hfinal⟩ := layVals_spec _ _ _ hlay
  -- the end
  have fin : ∀ {es prev stage vals H listed c w μ}, Inv P B w0 G self ops p T nt ds H0 μ0 valsF HF es prev stage vals H listed c w μ → Region.ready .any ops listed = [] → Q .normal c w := by
    intro es prev stage vals H listed c w μ hI hr
    have hall := ready_nil hp hI.lsize hr
    have hes : es = [] := by
      cases es with
      | nil => rfl
      | cons e r =>
        exfalso
        obtain ⟨done, h1, _⟩ := hI.split
        have hmem : e ∈ p.bars := by rw [h1]; simp
        rw [hp.bars] at hmem
        have : e < ops.size := by
          unfold barsOf at hmem
          rw [List.mem_filter, List.mem_range] at hmem
          exact hmem.1
        exact hI.left e (by simp) (hall e this)
    subst hes
    have hrun := hI.run
    simp [runBars] at hrun
    obtain ⟨rfl, rfl⟩ := hrun
    refine hQ c μ w hI.ext ⟨⟨hI.size, ?_⟩, hI.defers⟩ hI.rep
    intro t v ht
    rcases hfinal t v ht with ⟨j, hj, o, id, ho, hod, hv⟩ | ⟨hno, hT⟩
    · have hjn : j < ops.size := by simpa using hj
      obtain ⟨u, id', h1, h2⟩ := hI.tmpsW j o t (hall j hjn) ho hod
      rw [hv] at h1; cases h1
      exact h2
    · refine hI.tmps0 t ?_ v hT
      intro j o hj ho
      exact hno j (by simpa using (Array.getElem?_eq_some_iff.1 ho).1) o ho
  intro fuel
  induction fuel with
  | zero =>
    intro es prev stage vals H listed c w μ hI hcnt
    have hz : cntF (fun i => listed.getD i false) ops.size = 0 := by omega
    have hall := cntF_zero hz
    have hr : Region.ready .any ops listed = [] := by
      cases hq : Region.ready .any ops listed with
      | nil => rfl
      | cons i r =>
        have := ready_spec hI.lsize (i := i) (by rw [hq]; simp)
        exact absurd (hall i this.1) this.2.1
    exact ⟨hr, fin hI hr⟩
  | succ fuel ih =>
    intro es prev stage vals H listed c w μ hI hcnt
    refine ⟨fin hI, ?_⟩
    intro i hi
    obtain ⟨hin, hnd, o, ho, hedges⟩ := ready_spec hI.lsize hi
    have hready := mask_did hp hI.closed ho hedges
    have hd : ∀ d, o.dst = some d → d < nt := by
      obtain ⟨o', ho', hdd⟩ := hdst i (by simpa using hin)
      rw [ho] at ho'; cases ho'
      exact hdd
    have hilt : i < listed.size := by rw [hI.lsize]; exact hin
    have hcnt' : cntF (fun j => (listed.setIfInBounds i true).getD j false) ops.size ≤ fuel := by
      have := cntF_set (f := fun j => listed.getD j false) (g := fun j => (listed.setIfInBounds i true).getD j false) (i := i) hnd (did_set_new hilt) (by
        intro j hj
        simp [Array.getD_eq_getD_getElem?, Ne.symm hj]) hin
      omega
    have henv := hI.env hp ho hnd hready
    -- the bars that are listed
    obtain ⟨done, hsplit, hdl, hdone⟩ := hI.split
    simp only [wpOpIn, ho]
    cases hbar : isBar o.op with
    | false =>
      have hine : i ∉ p.bars := by
        rw [hp.bars]
        unfold barsOf
        rw [List.mem_filter]
        intro q
        have := q.2
        rw [ho] at this
        simp only at this
        rw [hbar] at this; cases this
      -- what the check says
      have hck := hI.check
      unfold checkStage at hck
      rw [List.all_eq_true] at hck
      have hck := hck i (by simpa using hin)
      rw [ho] at hck
      simp only [hbar, Bool.false_or, Bool.or_eq_true] at hck
      have hstage : Nat.blt stage (stageOf p i) = false := by
        have hle : stageOf p i ≤ stage := by
          unfold stageOf
          rw [hsplit, List.filter_append, List.length_append]
          have h1 : (es.filter fun e => (bsAt p.bs i).testBit e) = [] := by
            rw [List.filter_eq_nil_iff]
            intro e he q
            exact hI.left e he (hready e q)
          rw [h1]
          have := List.length_filter_le (fun e => (bsAt p.bs i).testBit e) done
          simp; omega
        cases hq : Nat.blt stage (stageOf p i) with
        | false => rfl
        | true => have := (blt_iff _ _).1 hq; omega
      have hskip : skipped p prev i = false := by
        unfold skipped
        cases hprev : prev with
        | none => rfl
        | some e =>
          simp only
          cases hq : (bsAt p.bs e).testBit i with
          | false => rfl
          | true => exact absurd (hI.closed e i (hI.prevL e hprev) hq) hnd
      rw [hstage, hskip] at hck
      have hck : againD P G ops p T vals H i o = true := by simpa using hck
      -- the rest of the state, whatever the operation
      have step : ∀ {μ' : Mu} {w' : World} {v : AV} {id : Option Nat} {x : Value}, getV vals i = some (v, id) → VR μ' v x → μ.le μ' → Ext H0 μ0 H μ' → Rep P B w0 G μ' H w' →
          (∀ j v id, getV vals j = some (v, some id) → ¬ Did (listed.setIfInBounds i true) j → μ' id = none) → wpAnyIn (Fz ro) 0 P .any ops Q fuel (listed.setIfInBounds i true) (c.put o.dst x) w' := by
        intro μ' w' v id x hv hx hle hext hrep hids
        refine ih es prev stage vals H _ _ w' μ' ?_ hcnt'
        refine hI.next hp ho hnd hready hd (fun _ _ q => q) hv hx hle hrep hext ⟨done, hsplit, hdl, fun e he => did_set_old (hdone e he)⟩ ?_ (fun e he => did_set_old (hI.prevL e he)) ?_ hI.inj hI.check hI.run
        · intro e he q
          rcases did_set q with rfl | q
          · exact hine (by rw [hsplit]; simp [he])
          · exact hI.left e he q
        · intro j u id' q
          exact ⟨(hI.ids j u id' q).1, (hI.ids j u id' q).2.1, hids j u id' q⟩
      have idsSame : ∀ j v id, getV vals j = some (v, some id) → ¬ Did (listed.setIfInBounds i true) j → μ id = none := by
        intro j v id q hq
        exact (hI.ids j v id q).2.2 (fun hdj => hq (did_set_old hdj))
      unfold againD at hck
      split at hck
      · rename_i v hwd hgv
        rw [hI.wanted hp ho hready hwd]
        simp only [Bool.false_eq_true, if_false]
        have := AV.beq_eq hck
        subst this
        exact ⟨fun f _ => Fz_fn ro f, step hgv rfl (.refl μ) hI.ext hI.rep idsSame⟩
      · rename_i v id hwd hgv
        rw [hI.wanted hp ho hready hwd]
        simp only [if_true]
        split at hck
        · rename_i id' hal
          split at hck
          · rename_i m f hm
            simp only [Bool.and_eq_true] at hck
            obtain ⟨⟨⟨hfv, hst⟩, hlt⟩, hbd⟩ := hck
            have hbd : m.bad G.res = false := by rw [← hI.rep.resd]; simpa using hbd
            have hfv := AV.beq_eq hfv
            have hget := stillMade_get hst
            have hun : μ id' = none := (hI.ids i v id' hgv).2.2 hnd
            obtain ⟨obj, N, x, g1, g2, g3⟩ := alloc_sound (R := G.res) henv hm hbd w
            have hrep : Rep P B w0 G (μ.add id' w.heap.size N) H (w.alloc obj) := hI.rep.bind ((blt_iff _ _).1 hlt) (fun q hq => by rw [hget] at hq; exact (Option.some.inj hq).symm) hun (g2 id')
            refine wpIn_of_run (alloc_noDefer hm) g1 (.inl rfl) (step hgv (by rw [← hfv]; exact g3 _ _ (if_pos rfl)) (Mu.le_add hun) ⟨hI.ext.1.trans (Mu.le_add hun), hI.ext.2.1, ?_⟩ hrep ?_)
            · intro k hk hk0
              have := (hI.ids i v id' hgv).1
              simp only [Mu.add]
              rw [if_neg (by omega)]
              exact hI.ext.2.2 k hk hk0
            · intro j u id2 hj hndj
              simp only [Mu.add]
              split
              · rename_i heq
                subst heq
                have := hI.inj j i u v id2 hj hgv
                subst this
                exact absurd (did_set_new hilt) hndj
              · exact idsSame j u id2 hj hndj
          · cases hck
        · rename_i hal
          split at hck
          · rename_i v' hq
            have := AV.beq_eq hck
            subst this
            obtain ⟨x, g1, g2⟩ := quiet_sound hI.rep henv hq
            exact wpIn_of_run (quiet_noDefer hq) g1 (.inl rfl) (step hgv g2 (.refl μ) hI.ext hI.rep idsSame)
          · cases hck
        · cases hck
      · cases hck
    | true =>
      have hib : i ∈ p.bars := by
        rw [hp.bars]
        unfold barsOf
        rw [List.mem_filter]
        exact ⟨by simpa using hin, by rw [ho]; exact hbar⟩
      -- it is the next barrier
      have hies : i ∈ es := by
        rw [hsplit] at hib
        rcases List.mem_append.1 hib with q | q
        · exact absurd (hdone i q) hnd
        · exact q
      obtain ⟨es', rfl⟩ : ∃ es', es = i :: es' := by
        cases es with
        | nil => cases hies
        | cons e r =>
          rcases List.mem_cons.1 hies with rfl | q
          · exact ⟨r, rfl⟩
          · have := chain_head hsplit hp.chain i q
            exact absurd (hready e this) (hI.left e (by simp))
      have hrun := hI.run
      simp only [runBars, ho] at hrun
      cases hsome : (getV vals i).isSome with
      | true => rw [hsome] at hrun; cases hrun
      | false =>
        rw [hsome] at hrun
        have hnone : getV vals i = none := by cases hq : getV vals i <;> simp_all
        simp only [cond_false] at hrun
        have hnodup : ∀ e ∈ es', e ≠ i := by
          intro e he q
          subst q
          have hb := chain_head hsplit hp.chain e he
          exact hnd (hready e hb)
        -- the rest of the state
        have step : ∀ {μ1 : Mu} {w1 : World} {v : AV} {x : Value} {H1 : AH}, VR μ1 v x → Ext H μ H1 μ1 → Rep P B w0 G μ1 H1 w1 →
            (match endStage P G ops p T (stage + 1) (some i) ((i, v, none) :: vals) H1 with
              | some (vals, H) => runBars P G self ops p T es' (stage + 1) vals H
              | none => none) = some (valsF, HF) → wpAnyIn (Fz ro) 0 P .any ops Q fuel (listed.setIfInBounds i true) (c.put o.dst x) w1 := by
          intro μ1 w1 v x H1 hx hext hrep hrest
          split at hrest
          · rename_i vals2 H2 hend
            obtain ⟨hadd, hck⟩ := endStage_some (P := P) (B := B) (w0 := w0) (G := G) hend μ1
            have hadd0 := (added_plain (P := P) (B := B) (w0 := w0) (G := G) (H := H1) μ1 (v := v) hnone)
            have hrep2 := hadd.rep w1 hrep
            have hext2 : Ext H μ H2 μ1 := ⟨hext.1, Nat.le_trans hext.2.1 hadd.next, hext.2.2⟩
            refine ih es' (some i) (stage + 1) vals2 H2 _ _ w1 μ1 ?_ hcnt'
            refine hI.next hp ho hnd hready hd (fun j y q => hadd.old j y (hadd0.old j y q)) (hadd.old i _ getV_cons_eq) hx hext.1 hrep2 (hI.ext.trans hext2)
              ⟨done ++ [i], by rw [hsplit]; simp, by simp [hdl], ?_⟩ ?_ ?_ ?_ ?_ hck hrest
            · intro e he
              rcases List.mem_append.1 he with q | q
              · exact did_set_old (hdone e q)
              · have : e = i := by simpa using q
                subst this
                exact did_set_new hilt
            · intro e he q
              rcases did_set q with rfl | q
              · exact hnodup e he rfl
              · exact hI.left e (by simp [he]) q
            · intro e he
              cases he
              exact did_set_new hilt
            · intro j u id q
              rcases hadd.new j u id q with q | q
              · have q' : getV vals j = some (u, some id) := by
                  by_cases hij : i = j
                  · subst hij; rw [getV_cons_eq] at q; cases q
                  · rw [getV_cons_ne hij] at q; exact q
                obtain ⟨a1, a2, a3⟩ := hI.ids j u id q'
                exact ⟨a1, Nat.lt_of_lt_of_le a2 hext2.2.1, fun hndj => hext.2.2 id a2 (a3 (fun hdj => hndj (did_set_old hdj)))⟩
              · refine ⟨?_, q.2, fun _ => hrep.notYet q.1⟩
                have h1 := hI.ext.2.1
                have h2 := hext.2.1
                omega
            · refine hadd.inj ?_ (hadd0.inj ?_ hI.inj)
              · intro j u id q
                have q' : getV vals j = some (u, some id) := by
                  by_cases hij : i = j
                  · subst hij; rw [getV_cons_eq] at q; cases q
                  · rw [getV_cons_ne hij] at q; exact q
                have := (hI.ids j u id q').2.1
                have := hext.2.1
                omega
              · intro j u id q
                have := (hI.ids j u id q).2.1
                have := hext.2.1
                omega
          · cases hrest
        split at hrun
        · rename_i hwd
          rw [hI.wanted hp ho hready hwd]
          simp only [if_true]
          exact stepE_wp hN hC hR hI.rep henv hrun (fun v H1 μ1 x w1 g1 g2 g3 g4 => step g3 g2 g4 g1)
        · rename_i hwd
          rw [hI.wanted hp ho hready hwd]
          simp only [Bool.false_eq_true, if_false]
          exact ⟨fun f _ => Fz_fn ro f, step (v := .sc .undef) rfl (.refl H μ) hI.rep hrun⟩
        · cases hrun

/-- **A region that draws its order.** -/
theorem draw_wp (hm : P.follows .mixedOrders = true) (hN : NamesOK P) (hC : CallOK P B w0 G self) (hR : RoundOK P B w0 G self) (hp : planOf ops = some p) {a a' : Act} {H H' : AH} {μ : Mu} {w : World} {c : CAct}
    (hr : runDraw P G self ops p a H = some (a', H')) (h : Rep P B w0 G μ H w) (ha : ActRel P μ a c) {ro : Option Nat} {Q : Exit → CAct → World → Prop} {id : Nat}
    (hQ : ∀ c' μ' w', Ext H μ H' μ' → ActRel P μ' a' c' → Rep P B w0 G μ' H' w' → Q .normal c' w') : (Code.region id ops true).wpIn (Fz ro) 0 P Q c w := by
  have hpl := plan_ok hp
  unfold runDraw at hr
  split at hr
  · rename_i vals1 H1 hend
    split at hr
    · rename_i valsF HF hbars
      split at hr
      · rename_i T' hlay
        simp only [Option.some.injEq, Prod.mk.injEq] at hr
        obtain ⟨rfl, rfl⟩ := hr
        obtain ⟨hadd, hck⟩ := endStage_some (P := P) (B := B) (w0 := w0) (G := G) hend μ
        refine wpIn_region_any hm ?_
        have hrep : Rep P B w0 G μ H { w with drawn := w.drawn + 1 } := h.drewN _
        have none : ∀ i, ¬ Did (Array.replicate ops.size false) i := by
          intro i q
          unfold Did at q
          rw [Array.getD_eq_getD_getElem?, Array.getElem?_replicate] at q
          split at q <;> simp at q
        have hcnt : cntF (fun i => (Array.replicate ops.size false).getD i false) ops.size ≤ ops.size := by
          have : ∀ n, cntF (fun i => (Array.replicate ops.size false).getD i false) n ≤ n := by
            intro n
            induction n with
            | zero => exact Nat.le_refl _
            | succ n ih => simp only [cntF]; split <;> omega
          exact this _
        refine any_wp hN hC hR hpl (ds := a.ds) hlay hQ ops.size p.bars Option.none 0 vals1 H1 _ c _ μ ?_ hcnt
        exact {
          rep := hadd.rep _ hrep
          ext := ⟨.refl μ, hadd.next, fun _ _ q => q⟩
          defers := ha.2
          size := ha.1.1
          lsize := by simp
          closed := fun i j q => absurd q (none i)
          tmpsW := fun j o d q => absurd q (none j)
          tmps0 := fun t _ v q => ha.1.2 t v q
          split := ⟨[], rfl, rfl, fun e he => by cases he⟩
          left := fun e _ => none e
          prevL := fun e he => by cases he
          ids := by
            intro j v id q
            rcases hadd.new j v id q with q | q
            · simp [getV] at q
            · exact ⟨q.1, q.2, fun _ => h.notYet q.1⟩
          inj := hadd.inj (fun j v id q => by simp [getV] at q) (fun i j v v' id q => by simp [getV] at q)
          check := hck
          run := hbars }
      · cases hr
    · cases hr
  · cases hr

end
end Go.Eng

namespace Go.Eng
open Go.RowKit

def XRel : AX → Exit → Prop
  | .normal, .normal => True
  | .exit i, .exit j => i = j
  | .goto i, .goto j => i = j
  | .ret, .ret => True
  | _, _ => False

def RoRel (μ : Mu) : Option Nat → Option Nat → Prop
  | none, r => r = none
  | some l, r => ∃ b N, μ l = some (b, N) ∧ r = some b
theorem RoRel.mono {μ ν : Mu} (h : μ.le ν) : ∀ {a b : Option Nat}, RoRel μ a b → RoRel ν a b
  | none, _, h' => h'
  | some _, _, ⟨b, N, hm, e⟩ => ⟨b, N, h _ _ hm, e⟩

def PostC (P : Program) (B : Nat) (w0 : World) (G : Sett) (μ : Mu) (H : AH) (x : AX) (a' : Act) (H' : AH) : Exit → CAct → World → Prop :=
  fun e c' w' => XRel x e ∧ ∃ μ', Ext H μ H' μ' ∧ ActRel P μ' a' c' ∧ Rep P B w0 G μ' H' w'

def CodeOK (P : Program) (B : Nat) (w0 : World) (G : Sett) (sf : Cb) : Prop :=
  ∀ ro fn cd a H x a' H', sf.code ro fn cd a H = some (x, a', H') → ∀ μ w c ro', RoRel μ ro ro' → Rep P B w0 G μ H w → ActRel P μ a c → cd.wpIn (Fz ro') 0 P (PostC P B w0 G μ H x a' H') c w

section
variable {P : Program} {B : Nat} {w0 : World} {G : Sett} {self : Cb}

theorem stepR_scope' {b : Frame} {a : CAct} {k : List Item} {cs : List Frame} {w : World} {c : Code} : step P (lone (b.atR a (.code (.scope c) :: k)) cs w) = .next (lone (b.atR a (.code c :: .inScope c :: k)) cs w) :=
  step_lone_go (by simp [stepG, stepG.exec, Frame.atR])
theorem stepR_inScope' {b : Frame} {a : CAct} {k : List Item} {cs : List Frame} {w : World} {c : Code} : step P (lone (b.atR a (.inScope c :: k)) cs w) = .next (lone (b.atR a k) cs w) :=
  step_lone_go (by simp [stepG, stepG.exec, Frame.atR])

def noGoto (Q : Exit → CAct → World → Prop) : Exit → CAct → World → Prop
  | .goto _, _, _ => False
  | e, a, w => Q e a w

theorem wpIn_scope {F : Fence} {n : Nat} {c : Code} {Q : Exit → CAct → World → Prop} {a : CAct} {w : World} (h : c.wpIn F n P (noGoto Q) a w) : (Code.scope c).wpIn F n P Q a w := by
  intro b k cs hro hb hr
  have h0 : (lone (b.atR a (.code (.scope c) :: k)) cs w).fenced P F := fenced_calm hb hr rfl
  obtain ⟨e, a₁, w₁, hq, harr⟩ := h b (.inScope c :: k) cs hro hb hr
  cases e with
  | normal => exact ⟨.normal, a₁, w₁, hq, .head h0 stepR_scope' (StepsIn.trans harr (.one (fenced_calm hb hr rfl) stepR_inScope'))⟩
  | exit id =>
    have hx : exitTo id (.inScope c :: k) = exitTo id k := by simp [exitTo]
    exact ⟨_, a₁, w₁, hq, fun k' hk => .head h0 stepR_scope' (harr.1 k' (by rw [hx]; exact hk)),
      fun hr' hk => let ⟨k₁, h1, h2⟩ := harr.2 hr' (by rw [hx]; exact hk); ⟨k₁, h1, .head h0 stepR_scope' h2⟩⟩
  | goto l => exact hq.elim
  | ret => exact ⟨_, a₁, w₁, hq, .of_steps (.one h0 stepR_scope') harr⟩
  | panic ch => exact ⟨_, a₁, w₁, hq, .of_steps (.one h0 stepR_scope') harr⟩
  | outgrown => exact ⟨_, a₁, w₁, hq, .of_steps (.one h0 stepR_scope') harr⟩

theorem PostC.trans {μ μ1 : Mu} {H H1 H' : AH} {x : AX} {a' : Act} (h1 : Ext H μ H1 μ1) {e : Exit} {c : CAct} {w : World} (h : PostC P B w0 G μ1 H1 x a' H' e c w) : PostC P B w0 G μ H x a' H' e c w := by
  obtain ⟨hx, μ', h2, h3⟩ := h
  exact ⟨hx, μ', h1.trans h2, h3⟩

theorem loopN_wp {cd : Code} {f : Act → AH → Option (AX × Act × AH)} {ro ro' : Option Nat} (hf : ∀ a H x a' H', f a H = some (x, a', H') → ∀ μ w c, RoRel μ ro ro' → Rep P B w0 G μ H w → ActRel P μ a c → cd.wpIn (Fz ro') 0 P (PostC P B w0 G μ H x a' H') c w) :
    ∀ (m : Nat) (a : Act) (H : AH) (x : AX) (a' : Act) (H' : AH), loopN f m a H = some (x, a', H') → ∀ μ w c, RoRel μ ro ro' → Rep P B w0 G μ H w → ActRel P μ a c →
      ∀ Q : Exit → CAct → World → Prop, (∀ e c' w', PostC P B w0 G μ H x a' H' e c' w' → Q e c' w') → Code.roundsIn (Fz ro') 0 P cd Q m c w
  | 0, a, H, x, a', H', h, _, _, _, _, _, _, _, _ => by simp [loopN] at h
  | m + 1, a, H, x, a', H', h, μ, w, c, hro, hrep, ha, Q, hQ => by
    simp only [loopN] at h
    show cd.wpIn (Fz ro') 0 P (Exit.then (Code.roundsIn (Fz ro') 0 P cd Q m) Q) c w
    split at h
    · rename_i a1 H1 h1
      refine wpIn_mono (hf _ _ _ _ _ h1 μ w c hro hrep ha) ?_
      rintro e c1 w1 ⟨hx, μ1, g1, g2, g3⟩
      cases e <;> first | exact hx.elim | skip
      exact loopN_wp hf m a1 H1 x a' H' h μ1 w1 c1 (hro.mono g1.1) g3 g2 Q (fun e c' w' q => hQ e c' w' (q.trans g1))
    · rename_i hne
      refine wpIn_mono (hf _ _ _ _ _ h μ w c hro hrep ha) ?_
      rintro e c1 w1 q
      have q' := q
      obtain ⟨hx, μ1, g1, g2, g3⟩ := q
      cases e <;> cases x <;> first | exact hx.elim | exact hQ _ _ _ q' | exact absurd h (hne _ _)

/-- What the frame's marks give at its end. -/
theorem ends_leave {fn : Func} {tmps : Array Value} {R : Ending → World → Prop} : ∀ (ds : List Mark) (H : AH) (k : AH → Option (AV × AH)) (r : AV × AH), endsOk H ds k = some r → ∀ μ w (l : List Deferred), Rep P B w0 G μ H w → DR P μ ds l →
    (∀ H' w', H'.next = H.next → Rep P B w0 G μ H' w' → k H' = some r → ∃ v, (results fn tmps).run P w' = .ok v w' ∧ R (.returned v) w') → LeavesInM Fence.wide 0 P fn tmps R l .returning w
  | [], H, k, r, h, μ, w, l, hrep, hl, hK => by
    have hl' : l = [] := hl
    subst hl'
    exact hK H w rfl hrep h
  | .still :: ds, H, k, r, h, μ, w, l, hrep, hl, hK => by
    obtain ⟨d, t, rfl, hd, ht⟩ := hl
    obtain ⟨g, cap, h1, h2, h3⟩ := hd
    simp only [endsOk] at h
    refine ⟨by simp, .inr ⟨(fun q => by cases q), .func g, cap, g, d.args ++ cap, h1, h2 w, fun _ _ => trivial, (h3 w).mono ?_⟩⟩
    rintro e u w' ⟨⟨v, rfl⟩, rfl, hh, hb⟩
    refine ends_leave ds H k r h μ w' t (hrep.same hh ?_) ht hK
    exact hrep.below.trans (hb.mono hrep.baseNow)
  | .loop i :: ds, H, k, r, h, μ, w, l, hrep, hl, hK => by
    obtain ⟨b, N, t, rfl, hm, ht⟩ := hl
    simp only [endsOk] at h
    split at h
    · rename_i ho
      rw [withObj_eq] at h
      obtain ⟨hB, hw⟩ := hrep.defd _ _ _ _ ho hm
      rw [if_pos rfl] at hw
      refine ⟨by simp, .inl ⟨b, withObjAt w b (.deferred none), rfl, by simp [Instr.takeDeferred, getObj, setObj, Sem.run, hw, withObjAt], ?_⟩⟩
      refine ends_leave ds (H.set i (.defd false)) k r h μ _ t (hrep.setObj ho hm hB (by simp) (by simp) (by simp) ?_) ht (fun H' w' q1 q2 q3 => hK H' w' q1 q2 q3)
      exact ⟨(by intro _ he; cases he), (by intro _ _ _ he; cases he), (by intro _ _ _ _ he; cases he), (by intro _ _ he; cases he), (by intro _ _ _ _ _ _ _ _ _ he; cases he), (by intro op he; cases he; rfl)⟩
    · cases h

def resF (tmps : Array Value) : ResultVar → Sem Value
  | .tmp t => pure (tmps.getD t undef)
  | .cell a t => do loadVar t (← asAddr (tmps.getD a undef))

theorem results_eq (fn : Func) (tmps : Array Value) : results fn tmps = (do
    let vs ← fn.results.mapM (resF tmps)
    pure (if h : vs.size = 1 then vs[0] else .tuple vs)) := by
  have : (fun (q : ResultVar) => match q with
      | .tmp t => (pure (tmps.getD t undef) : Sem Value)
      | .cell a t => do loadVar t (← asAddr (tmps.getD a undef))) = resF tmps := by
    funext q; cases q <;> rfl
  unfold results
  rw [← this]
  rfl

theorem results_run {μ : Mu} {H : AH} {w : World} (h : Rep P B w0 G μ H w) {a : Act} {c : CAct} (ha : TR μ a.nt a.T c.tmps) : ∀ {rs : List ResultVar} {vs : AV}, resultsOf P H a rs = some vs →
    ∃ xs : List Value, (rs.mapM (resF c.tmps)).run P w = .ok xs w ∧ LR μ vs xs
  | [], vs, hr => by simp [resultsOf] at hr; subst hr; exact ⟨[], rfl, rfl⟩
  | .tmp t :: rs, vs, hr => by
    simp only [resultsOf] at hr
    split at hr
    · rename_i v us hv hus
      simp at hr; subst hr
      obtain ⟨xs, h1, h2⟩ := results_run h ha hus
      have h0 : (resF c.tmps (.tmp t)).run P w = .ok (c.tmps.getD t undef) w := rfl
      exact ⟨c.tmps.getD t undef :: xs, by simp only [List.mapM_cons, Sem.run_bind, h0, h1, Result.andThen_ok, Sem.run_pure], LR.cons (ha.2 t v hv) h2⟩
    · cases hr
  | .cell t ty :: rs, vs, hr => by
    simp only [resultsOf] at hr
    split at hr
    · rename_i i off hv
      have hp := ha.2 t _ hv
      have fin : ∀ {y : Value} {v us : AV}, (Instr.loadAt ty (c.tmps.getD t undef)).run P w = .ok y w → VR μ v y → resultsOf P H a rs = some us → ∃ xs : List Value, ((ResultVar.cell t ty :: rs).mapM (resF c.tmps)).run P w = .ok xs w ∧ LR μ (.cons v us) xs := by
        intro y v us h3 h4 hus
        obtain ⟨xs, h1, h2⟩ := results_run h ha hus
        obtain ⟨b, N, hm, hx⟩ := hp
        rw [hx] at h3
        have h3' : (loadVar ty ⟨b, off, none⟩).run P w = .ok y w := by simpa [Instr.loadAt, Instr.sureAddr] using h3
        have h0 : (resF c.tmps (.cell t ty)).run P w = .ok y w := by
          simp only [resF, hx, asAddr, Sem.run_bind, Sem.run_pure, Result.andThen_ok, h3']
        exact ⟨y :: xs, by simp only [List.mapM_cons, Sem.run_bind, h0, h1, Result.andThen_ok, Sem.run_pure], LR.cons h4 h2⟩
      split at hr
      · rename_i n hg hs
        split at hr
        · rename_i cs us hc hus
          simp at hr; subst hr
          obtain ⟨y, h3, h4⟩ := load_agg h hg hs hp hc
          exact fin h3 h4 hus
        · cases hr
      · rename_i n hg hs
        split at hr
        · rename_i v r us hc hus
          simp at hr; subst hr
          obtain ⟨y, h3, h4⟩ := load_one h hg hp hc
          exact fin h3 h4 hus
        · cases hr
      · cases hr
    · cases hr

theorem setAll_range {nt : Nat} : ∀ (vs : AV) (s : Nat) (T : Tr AV) (k : Tr AV → Option (AV × AH)) (r : AV × AH), setAll nt T (List.range' s vs.len) vs k = some r →
    ∃ T', k T' = some r ∧ ∀ t v, T'.get t = some v → (∃ i, t = s + i ∧ vs.nth i = some v) ∨ T.get t = some v
  | .cons v vs, s, T, k, r, h => by
    simp only [AV.len, List.range'_succ, setAll] at h
    cases hb : Nat.blt s nt with
    | false => rw [hb] at h; cases h
    | true =>
      rw [hb] at h
      simp only [cond_true, Tr.setK_eq] at h
      obtain ⟨T', h1, h2⟩ := setAll_range vs (s + 1) _ k r h
      refine ⟨T', h1, ?_⟩
      intro t u q
      rcases h2 t u q with ⟨i, rfl, hi⟩ | q
      · exact .inl ⟨i + 1, by omega, hi⟩
      · rcases Tr.get_set deep T s (some v) t u q with ⟨rfl, q'⟩ | ⟨_, q'⟩
        · cases q'; exact .inl ⟨0, by omega, rfl⟩
        · exact .inr q'
  | .nil, s, T, k, r, h => by
    simp only [AV.len, List.range'_zero, setAll] at h
    exact ⟨T, h, fun t v q => .inr q⟩
  | .sc _, _, _, _, _, h | .ptr .., _, _, _, _, h | .slc .., _, _, _, _, h | .map _, _, _, _, _, h | .yield _, _, _, _, _, h | .fn .., _, _, _, _, h | .iface .., _, _, _, _, h | .agg _, _, _, _, _, h | .tup _, _, _, _, _, h => by
    simp [AV.len, setAll] at h

theorem setAll_TR {μ : Mu} {nt : Nat} : ∀ (ts : List Tmp) (vs : AV) (ys : List Value) (T : Tr AV) (tmps : Array Value) (k : Tr AV → Option (AV × AH)) (r : AV × AH), setAll nt T ts vs k = some r → LR μ vs ys → TR μ nt T tmps →
    ts.length = ys.length ∧ ∃ T', k T' = some r ∧ TR μ nt T' ((ts.zip ys).foldl (fun tmps (q : Tmp × Value) => tmps.setIfInBounds q.1 q.2) tmps)
  | [], .nil, ys, T, tmps, k, r, h, hl, ht => by
    have hl' : ys = [] := hl
    subst hl'
    exact ⟨rfl, T, h, ht⟩
  | t :: ts, .cons v vs, ys, T, tmps, k, r, h, hl, ht => by
    obtain ⟨y, ys', rfl, h1, h2⟩ := hl
    simp only [setAll] at h
    cases hb : Nat.blt t nt with
    | false => rw [hb] at h; cases h
    | true =>
      rw [hb] at h
      simp only [cond_true, Tr.setK_eq] at h
      obtain ⟨g1, T', g2, g3⟩ := setAll_TR ts vs ys' _ (tmps.setIfInBounds t y) k r h h2 (ht.put ((blt_iff _ _).1 hb) h1)
      exact ⟨by simp [g1], T', g2, by simpa using g3⟩
  | [], .cons .., _, _, _, _, _, h, _, _ | [], .sc _, _, _, _, _, _, h, _, _ | [], .ptr .., _, _, _, _, _, h, _, _ | [], .slc .., _, _, _, _, _, h, _, _ | [], .map _, _, _, _, _, _, h, _, _ | [], .yield _, _, _, _, _, _, h, _, _ | [], .fn .., _, _, _, _, _, h, _, _ | [], .iface .., _, _, _, _, _, h, _, _ | [], .agg _, _, _, _, _, _, h, _, _ | [], .tup _, _, _, _, _, _, h, _, _ => by simp [setAll] at h
  | _ :: _, .nil, _, _, _, _, _, h, _, _ | _ :: _, .sc _, _, _, _, _, _, h, _, _ | _ :: _, .ptr .., _, _, _, _, _, h, _, _ | _ :: _, .slc .., _, _, _, _, _, h, _, _ | _ :: _, .map _, _, _, _, _, _, h, _, _ | _ :: _, .yield _, _, _, _, _, _, h, _, _ | _ :: _, .fn .., _, _, _, _, _, h, _, _ | _ :: _, .iface .., _, _, _, _, _, h, _, _ | _ :: _, .agg _, _, _, _, _, _, h, _, _ | _ :: _, .tup _, _, _, _, _, _, h, _, _ => by simp [setAll] at h

end
end Go.Eng

namespace Go.Eng
open Go.RowKit

section
variable {P : Program} {B : Nat} {w0 : World} {G : Sett} {self : Cb}

/-- What a run does once the calls of a loop over a function are over: the exit it left pending, if any. -/
def afterLoop (self : Cb) (fn : FuncId) (pend : Option Code) (a : Act) (H : AH) : Option (AX × Act × AH) :=
  match pend with
  | none => some (.normal, a, H)
  | some c => self.code none fn c a H

theorem codeF_ok (hm : P.follows .mixedOrders = true) (hN : NamesOK P) (hC : CallOK P B w0 G self) (hR : RoundOK P B w0 G self) (hK : CodeOK P B w0 G self) {ro : Option Nat} {fn : FuncId} {cd : Code} {a a' : Act} {H H' : AH} {x : AX}
    (h : codeF P G self ro fn cd a H = some (x, a', H')) {μ : Mu} {w : World} {c : CAct} {ro' : Option Nat} (hro : RoRel μ ro ro') (hrep : Rep P B w0 G μ H w) (ha : ActRel P μ a c) : cd.wpIn (Fz ro') 0 P (PostC P B w0 G μ H x a' H') c w := by
  unfold codeF at h
  split at h
  · simp at h; obtain ⟨rfl, rfl, rfl⟩ := h
    exact wpIn_skip ⟨trivial, μ, .refl H μ, ha, hrep⟩
  · simp at h; obtain ⟨rfl, rfl, rfl⟩ := h
    exact wpIn_label ⟨trivial, μ, .refl H μ, ha, hrep⟩
  · simp at h; obtain ⟨rfl, rfl, rfl⟩ := h
    exact wpIn_exit ⟨rfl, μ, .refl H μ, ha, hrep⟩
  · simp at h; obtain ⟨rfl, rfl, rfl⟩ := h
    exact wpIn_goto ⟨rfl, μ, .refl H μ, ha, hrep⟩
  · simp at h; obtain ⟨rfl, rfl, rfl⟩ := h
    exact wpIn_ret ⟨trivial, μ, .refl H μ, ha, hrep⟩
  · rename_i id ops draw
    cases draw with
    | true =>
      simp only [cond_true] at h
      split at h
      · rename_i p hp
        split at h
        · rename_i a1 H1 hr
          simp at h; obtain ⟨rfl, rfl, rfl⟩ := h
          exact draw_wp hm hN hC hR hp hr hrep ha (fun c' μ' w' q1 q2 q3 => ⟨trivial, μ', q1, q2, q3⟩)
        · cases h
      · cases h
    | false =>
      simp only [cond_false] at h
      split at h
      · rename_i a1 H1 hr
        simp at h; obtain ⟨rfl, rfl, rfl⟩ := h
        exact wpIn_region (runOps_wp hN hC hR (fun q => by cases ro with | none => exact hro | some _ => cases q) _ _ _ _ _ _ _ _ hr hrep ha (fun c' μ' w' q1 q2 q3 => ⟨trivial, μ', q1, q2, q3⟩))
      · cases h
  · rename_i cx cy
    split at h
    · rename_i a1 H1 h1
      refine wpIn_seq (wpIn_mono (hK _ _ _ _ _ _ _ _ h1 μ w c ro' hro hrep ha) ?_)
      rintro e c1 w1 ⟨hx, μ1, g1, g2, g3⟩
      cases e <;> first | exact hx.elim | skip
      exact wpIn_mono (hK _ _ _ _ _ _ _ _ h μ1 w1 c1 ro' (hro.mono g1.1) g3 g2) (fun e c' w' q => q.trans g1)
    · rename_i hne
      refine wpIn_seq (wpIn_mono (hK _ _ _ _ _ _ _ _ h μ w c ro' hro hrep ha) ?_)
      rintro e c1 w1 q
      have q' := q
      obtain ⟨hx, μ1, g1, g2, g3⟩ := q
      cases e <;> cases x <;> first | exact hx.elim | exact q' | exact absurd h (hne _ _)
  · rename_i cc cx cy
    split at h
    · rename_i hc
      exact wpIn_cond_true (env_rel hrep ha.1 hc) (hK _ _ _ _ _ _ _ _ h μ w c ro' hro hrep ha)
    · rename_i hc
      exact wpIn_cond_false (env_rel hrep ha.1 hc) (hK _ _ _ _ _ _ _ _ h μ w c ro' hro hrep ha)
    · cases h
  · rename_i id body
    split at h
    · rename_i id' a1 H1 h1
      refine wpIn_block (wpIn_mono (hK _ _ _ _ _ _ _ _ h1 μ w c ro' hro hrep ha) ?_)
      rintro e c1 w1 ⟨hx, hrest⟩
      cases e <;> first | exact hx.elim | skip
      rename_i j
      have hij : id' = j := hx
      subst hij
      cases hb : Nat.beq id' id with
      | true =>
        rw [hb] at h
        simp at h; obtain ⟨rfl, rfl, rfl⟩ := h
        simp only [Exit.inBlock, if_pos ((beq_iff _ _).1 hb)]
        exact ⟨trivial, hrest⟩
      | false =>
        rw [hb] at h
        simp at h; obtain ⟨rfl, rfl, rfl⟩ := h
        simp only [Exit.inBlock, if_neg ((beq_false _ _).1 hb)]
        exact ⟨rfl, hrest⟩
    · rename_i hne
      refine wpIn_block (wpIn_mono (hK _ _ _ _ _ _ _ _ h μ w c ro' hro hrep ha) ?_)
      rintro e c1 w1 q
      have q' := q
      obtain ⟨hx, μ1, g1, g2, g3⟩ := q
      cases e <;> cases x <;> first | exact hx.elim | exact q' | exact absurd h (hne _ _ _)
  · rename_i body
    exact wpIn_loop_rounds 1000000 (loopN_wp (ro := ro) (fun a H x a' H' hq μ w c q1 q2 q3 => hK _ _ _ _ _ _ _ _ hq μ w c ro' q1 q2 q3) _ _ _ _ _ _ h μ w c hro hrep ha _ (fun _ _ _ q => q))
  · rename_i body
    split at h
    · cases h
    · rename_i hne
      refine wpIn_scope (wpIn_mono (hK _ _ _ _ _ _ _ _ h μ w c ro' hro hrep ha) ?_)
      rintro e c1 w1 q
      have q' := q
      obtain ⟨hx, μ1, g1, g2, g3⟩ := q
      cases e <;> cases x <;> first | exact hx.elim | exact q' | exact absurd h (hne _ _ _)
  · rename_i g ps assign body
    split at h
    · rename_i f fs cs hg
      have hro0 : ro' = none := hro
      subst hro0
      simp only [newObj_eq] at h
      split at h
      · rename_i v H3 hcall
        obtain ⟨⟨fnr, hfn, hbody⟩, hcalls⟩ := hC.2 _ _ _ _ _ hcall
        obtain ⟨us, vs, hev, hus, hvs⟩ := env_rel hrep ha.1 hg
        refine wpIn_rangeFunc (F := Fence.wide) ?_
        intro fn' _
        have hun0 := hrep.notYet (i := H.next) (Nat.le_refl _)
        -- the block for deferred calls
        have hrep1 : Rep P B w0 G (μ.add H.next w.heap.size 0) (H.withNew (.defd true)) (w.alloc (.deferred (some []))) := by
          refine (hrep.layObj (.defd true) (by simp)).bind (oi := .defd true) (N := 0) (Nat.lt_succ_self _) ?_ hun0 ⟨(by intro _ he; cases he), (by intro _ _ _ he; cases he), (by intro _ _ _ _ he; cases he), (by intro _ _ he; cases he), (by intro _ _ _ _ _ _ _ _ _ he; cases he), (by intro op he; cases he; rfl)⟩
          intro o ho
          rcases Tr.get_set deep H.objs H.next (some (.defd true)) H.next o ho with ⟨_, q⟩ | ⟨q, _⟩
          · exact (Option.some.inj q).symm
          · exact absurd rfl q
        have hun1 := hrep1.notYet (i := H.next + 1) (Nat.le_refl _)
        have hsz1 : (w.alloc (.deferred (some []))).heap.size = w.heap.size + 1 := World.size_alloc _ _
        let L : Loop := { state := .ready, pending := none, fn := fn', tmps := c.tmps, params := ps, assign, body, defers := w.heap.size }
        have hrep2 : Rep P B w0 G ((μ.add H.next w.heap.size 0).add (H.next + 1) (w.heap.size + 1) 0) ((H.withNew (.defd true)).withNew (.loop .ready none fn a.nt a.T ps.toList assign body H.next)) ((w.alloc (.deferred (some []))).alloc (.loop L)) := by
          rw [← hsz1]
          refine (hrep1.layObj (.loop .ready none fn a.nt a.T ps.toList assign body H.next) (by simp)).bind (oi := .loop .ready none fn a.nt a.T ps.toList assign body H.next) (N := 0) (Nat.lt_succ_self _) ?_ hun1 ⟨(by intro _ he; cases he), (by intro _ _ _ he; cases he), (by intro _ _ _ _ he; cases he), (by intro _ _ he; cases he), ?_, (by intro op he; cases he)⟩
          · intro o ho
            rcases Tr.get_set deep (H.withNew (.defd true)).objs (H.next + 1) (some (.loop .ready none fn a.nt a.T ps.toList assign body H.next)) (H.next + 1) o ho with ⟨_, q⟩ | ⟨q, _⟩
            · exact (Option.some.inj q).symm
            · exact absurd rfl q
          · intro st pend f' nt' T' ps' as' bd' dd' he
            cases he
            exact ⟨L, w.heap.size, 0, rfl, rfl, rfl, ha.1.mono (Mu.le_add hun0), rfl, rfl, rfl, if_pos rfl, rfl⟩
        have hle02 : μ.le ((μ.add H.next w.heap.size 0).add (H.next + 1) (w.heap.size + 1) 0) := (Mu.le_add hun0).trans (Mu.le_add hun1)
        have hargs : LR ((μ.add H.next w.heap.size 0).add (H.next + 1) (w.heap.size + 1) 0) (fs.app (.cons (.yield (H.next + 1)) cs)) ((us ++ #[Value.func (.yield (w.heap.size + 1)) #[] #[]]) ++ vs).toList := by
          rw [Array.append_assoc]
          refine allOf_app (LR.mono hle02 hus) ?_
          rw [Array.toList_append]
          exact LR.cons ⟨_, 0, if_pos rfl, rfl⟩ (LR.mono hle02 hvs)
        have hbn : fnr.body.isNone = false := by cases hq : fnr.body <;> simp_all
        refine ⟨w.heap.size + 1, [{ target := .collected w.heap.size, args := #[] }], (w.alloc (.deferred (some []))).alloc (.loop L), { target := .fn (.func f) vs, args := us ++ #[Value.func (.yield (w.heap.size + 1)) #[] #[]] }, (w.alloc (.deferred (some []))).alloc (.loop L), f, (us ++ #[Value.func (.yield (w.heap.size + 1)) #[] #[]]) ++ vs, (w.alloc (.deferred (some []))).alloc (.loop L),
          ?_, ?_, fun _ _ => trivial, ?_, (fun q => by cases q), ((hcalls _ _ _ hrep2 hargs).mono ?_)⟩
        · simp [Instr.enterLoop, Fence.wide, L]
        · simp only [resolve, hev, Deferred.ofValue, Sem.run_pure, List.map_toArray, List.map_cons, List.map_nil]; rfl
        · simp only [invoke, callFunc, Sem.run_bind, run_program, Result.andThen_ok, hfn, hN f fnr hfn hbody, hbn, Bool.false_eq_true, if_false]
          rfl
        · rintro e w3 ⟨y, μ3, rfl, hext3, hy, hrep3⟩
          split at h
          · rename_i st pend fn2 nt2 tm2 ps2 as2 bd2 dd2 hget
            have hml : μ3 (H.next + 1) = some (w.heap.size + 1, 0) := hext3.1 _ _ (if_pos rfl)
            obtain ⟨hB, L3, d3, M3, hw3, e1, e2, e3, e4, e5, e6, e7, e8⟩ := hrep3.loop _ _ _ _ _ _ _ _ _ _ _ _ hget hml
            have hend : st ≠ .busy → (Instr.endLoop (w.heap.size + 1)).run P w3 = .ok pend (withObjAt w3 (w.heap.size + 1) (.loop { L3 with state := .exhausted })) := by
              intro hst
              have hne : ¬ L3.state = LoopState.busy := by rw [e1]; exact hst
              simp [Instr.endLoop, Instr.getLoop, getObj, setObj, Sem.run, hw3, hne, withObjAt, e2]
            have hset := hrep3.setObj (oj := .loop .exhausted pend fn2 nt2 tm2 ps2 as2 bd2 dd2) (o := .loop { L3 with state := .exhausted }) hget hml hB (by simp) (by simp) (by simp)
              ⟨(by intro _ he; cases he), (by intro _ _ _ he; cases he), (by intro _ _ _ _ he; cases he), (by intro _ _ he; cases he), (by intro _ _ _ _ _ _ _ _ _ he; cases he; exact ⟨_, d3, M3, rfl, rfl, e2, e3, e4, e5, e6, e7, e8⟩), (by intro op he; cases he)⟩
            have hext : Ext H μ (H3.set (H.next + 1) (.loop .exhausted pend fn2 nt2 tm2 ps2 as2 bd2 dd2)) μ3 := by
              refine ⟨hle02.trans hext3.1, ?_, ?_⟩
              · have h1 := hext3.2.1
                have h2 : H.next + 1 + 1 ≤ H3.next := h1
                show H.next ≤ H3.next
                omega
              · intro i hi hi0
                refine hext3.2.2 i (show i < H.next + 1 + 1 by omega) ?_
                simp only [Mu.add]
                rw [if_neg (by omega), if_neg (by omega)]; exact hi0
            have hact : ActRel P μ3 { T := a.T, nt := a.nt, ds := .loop H.next :: a.ds } { c with defers := [{ target := .collected w.heap.size, args := #[] }] ++ c.defers } :=
              ⟨ha.1.mono hext.1, w.heap.size, 0, c.defers, rfl, hext3.1 _ _ (by simp only [Mu.add]; rw [if_neg (by omega)]; exact if_pos trivial), ha.2.mono hext.1⟩
            have fin : st ≠ .busy → (afterLoop self fn pend { T := a.T, nt := a.nt, ds := .loop H.next :: a.ds } (H3.set (H.next + 1) (.loop .exhausted pend fn2 nt2 tm2 ps2 as2 bd2 dd2)) = some (x, a', H')) →
                rangePost Fence.wide 0 P (w.heap.size + 1) (PostC P B w0 G μ H x a' H') { c with defers := [{ target := .collected w.heap.size, args := #[] }] ++ c.defers } (.returned y) w3 := by
              intro hst hh
              refine ⟨pend, _, hend hst, ?_⟩
              cases pend with
              | none =>
                simp [afterLoop] at hh; obtain ⟨rfl, rfl, rfl⟩ := hh
                exact ⟨trivial, μ3, hext, hact, hset⟩
              | some cc =>
                exact wpIn_mono (hK _ _ _ _ _ _ _ _ hh μ3 _ _ none rfl hset hact) (fun e c' w' q => q.trans hext)
            cases st with
            | busy => cases h
            | ready => exact fin (by simp) (by simp only [withObj_eq] at h; exact h)
            | done => exact fin (by simp) (by simp only [withObj_eq] at h; exact h)
            | exhausted => exact fin (by simp) (by simp only [withObj_eq] at h; exact h)
          · cases h
      · cases h
    · cases h
  · cases h

end
end Go.Eng

namespace Go.Eng
open Go.RowKit

section
variable {P : Program} {B : Nat} {w0 : World} {G : Sett} {self : Cb}

theorem callF_ok (hK : CodeOK P B w0 G self) {f : FuncId} {args : AV} {H : AH} {v : AV} {H' : AH} (h : callF P self f args H = some (v, H')) :
    (∃ fn : Func, P.funcs[f]? = some fn ∧ fn.body.isSome = true) ∧ ∀ μ w (xs : Array Value), Rep P B w0 G μ H w → LR μ args xs.toList → CallsIn Fence.wide 0 P f xs w (After P B w0 G μ H v H') := by
  unfold callF at h
  split at h
  · rename_i fn hfn
    split at h
    · rename_i body hbody
      refine ⟨⟨fn, hfn, by rw [hbody]; rfl⟩, ?_⟩
      intro μ w xs hrep hxs
      cases hle : Nat.ble args.len fn.ntmps with
      | false => rw [hle] at h; cases h
      | true =>
        rw [hle] at h
        have hle := Nat.le_of_ble_eq_true hle
        simp only [cond_true, List.range_eq_range'] at h
        obtain ⟨T, h1, h2⟩ := setAll_range _ _ _ _ _ h
        have hlen := hxs.len
        rw [Array.length_toList] at hlen
        refine callsIn_of_wp_marks hfn hbody trivial ?_
        have hT : TR μ fn.ntmps T (xs ++ Array.replicate (fn.ntmps - xs.size) undef) := by
          refine ⟨by simp; omega, ?_⟩
          intro t u q
          rcases h2 t u q with ⟨i, rfl, hi⟩ | q
          · obtain ⟨y, hy, hyv⟩ := hxs.nth hi
            have hy' : xs[i]? = some y := by simpa using hy
            have hlt : i < xs.size := (Array.getElem?_eq_some_iff.1 hy').1
            rw [Nat.zero_add, Array.getD_eq_getD_getElem?, Array.getElem?_append_left hlt, hy']
            exact hyv
          · simp [Tr.get] at q
        split at h1
        · rename_i x a1 H1 hcode
          have hc := hK _ _ _ _ _ _ _ _ hcode μ w { tmps := xs ++ Array.replicate (fn.ntmps - xs.size) undef, defers := [] } none rfl hrep ⟨hT, rfl⟩
          refine wpIn_mono (F := Fence.wide) hc ?_
          rintro e c1 w1 ⟨hx, μ1, hext, hact, hrep1⟩
          have fin : endsOk H1 a1.ds (fun H => match resultsOf P H a1 fn.results.toList with
              | some (.cons v .nil) => some (v, H)
              | some vs => some (.tup vs, H)
              | none => none) = some (v, H') → LeavesInM Fence.wide 0 P fn c1.tmps (After P B w0 G μ H v H') c1.defers .returning w1 := by
            intro hends
            refine ends_leave a1.ds H1 _ _ hends μ1 w1 c1.defers hrep1 hact.2 ?_
            intro H2 w2 hn hrep2 hk
            split at hk
            · rename_i u hres
              simp at hk; obtain ⟨rfl, rfl⟩ := hk
              obtain ⟨ys, g1, g2⟩ := results_run hrep2 hact.1 hres
              obtain ⟨y, r, rfl, g3, g4⟩ := g2
              have g4' : r = [] := g4
              subst g4'
              refine ⟨y, ?_, y, μ1, rfl, hext.trans (.same μ1 hn), g3, hrep2⟩
              rw [results_eq]
              simp [Array.mapM_eq_mapM_toList, g1]
            · rename_i vs hne hres
              simp at hk; obtain ⟨rfl, rfl⟩ := hk
              obtain ⟨ys, g1, g2⟩ := results_run hrep2 hact.1 hres
              refine ⟨.tuple ys.toArray, ?_, .tuple ys.toArray, μ1, rfl, hext.trans (.same μ1 hn), ⟨ys.toArray, rfl, g2⟩, hrep2⟩
              have hsz : ¬ ys.length = 1 := by
                intro q
                cases vs with
                | cons u t =>
                  obtain ⟨y, r, rfl, g3, g4⟩ := g2
                  have hr : r = [] := by apply List.length_eq_zero_iff.1; simpa using q
                  subst hr
                  cases t with
                  | nil => exact hne u rfl
                  | cons u' t' => obtain ⟨_, _, q', _⟩ := g4; cases q'
                  | _ => exact g4.elim
                | nil => have : ys = [] := g2; subst this; simp at q
                | _ => exact g2.elim
              rw [results_eq]
              simp [Array.mapM_eq_mapM_toList, g1, hsz]
            · cases hk
          cases x with
          | normal => cases e <;> first | exact hx.elim | exact fin h1
          | ret => cases e <;> first | exact hx.elim | exact fin h1
          | exit id => cases h1
          | goto l => cases h1
        · cases h1
    · cases h
  · cases h

end
end Go.Eng

namespace Go.Eng
open Go.RowKit

section
variable {P : Program} {B : Nat} {w0 : World} {G : Sett} {self : Cb}

theorem roundF_ok (hK : CodeOK P B w0 G self) {l : Nat} {xs : AV} {H : AH} {v : AV} {H' : AH} (h : roundF self l xs H = some (v, H')) {μ : Mu} {w : World} {b N : Nat} {ys : Array Value} (hrep : Rep P B w0 G μ H w) (hm : μ l = some (b, N)) (hys : LR μ xs ys.toList) :
    ∃ L : Loop, w.heap[b]? = some (.loop L) ∧ ys.size = L.params.size ∧
      RoundIn Fence.wide 0 P b L.fn ((L.params.zip ys).foldl (fun tmps (t, a) => tmps.setIfInBounds t a) L.tmps) L.assign L.body w (After P B w0 G μ H v H') := by
  unfold roundF at h
  split at h
  · rename_i st pend fn nt tm ps as bd dd ho
    obtain ⟨hB, L, d, M, hw, e1, e2, e3, e4, e5, e6, e7, e8⟩ := hrep.loop _ _ _ _ _ _ _ _ _ _ _ _ ho hm
    obtain ⟨hlen, T, h1, hT⟩ := setAll_TR _ _ _ _ _ _ _ h hys e3
    refine ⟨L, hw, ?_, ?_⟩
    · rw [← Array.length_toList, ← hlen, ← e4, Array.length_toList]
    · have hfold : ((L.params.zip ys).foldl (fun tmps (q : Tmp × Value) => tmps.setIfInBounds q.1 q.2) L.tmps) = ((ps.zip ys.toList).foldl (fun tmps (q : Tmp × Value) => tmps.setIfInBounds q.1 q.2) L.tmps) := by
        rw [← Array.foldl_toList, Array.toList_zip, e4]
      refine roundIn_of_wpIn trivial ?_
      split at h1
      · rename_i a1 H1 hassign
        have hA := hK _ _ _ _ _ _ _ _ hassign μ w { tmps := (L.params.zip ys).foldl (fun tmps (q : Tmp × Value) => tmps.setIfInBounds q.1 q.2) L.tmps, defers := [] } (some b) ⟨b, N, hm, rfl⟩ hrep ⟨by rw [hfold]; exact hT, rfl⟩
        rw [← e5] at hA
        refine wpIn_mono (F := Fence.wide.inRound b) hA ?_
        rintro e c1 w1 ⟨hx, μ1, hext1, hact1, hrep1⟩
        cases e <;> first | exact hx.elim | skip
        have hm1 := hext1.1 _ _ hm
        split at h1
        · rename_i pend1 fn1 nt1 tm1 ps1 as1 bd1 dd1 ho1
          obtain ⟨hB1, L1, d1, M1, hw1, p1, p2, p3, p4, p5, p6, p7, p8⟩ := hrep1.loop _ _ _ _ _ _ _ _ _ _ _ _ ho1 hm1
          rw [withObj_eq] at h1
          have hrep2 := hrep1.setObj (oj := .loop .busy pend1 fn1 nt1 tm1 ps1 as1 bd1 dd1) (o := .loop { L1 with state := .busy }) ho1 hm1 hB1 (by simp) (by simp) (by simp)
            ⟨(by intro _ he; cases he), (by intro _ _ _ he; cases he), (by intro _ _ _ _ he; cases he), (by intro _ _ he; cases he), (by intro _ _ _ _ _ _ _ _ _ he; cases he; exact ⟨_, d1, M1, rfl, rfl, p2, p3, p4, p5, p6, p7, p8⟩), (by intro op he; cases he)⟩
          refine ⟨withObjAt w1 b (.loop { L1 with state := .busy }), ?_, ?_⟩
          · simp [Instr.beginRound, Instr.getLoop, getObj, setObj, Sem.run, hw1, p1, withObjAt]
          · split at h1
            · rename_i x a2 H2 hbody
              have hB2 := hK _ _ _ _ _ _ _ _ hbody μ1 _ c1 (some b) ⟨b, N, hm1, rfl⟩ hrep2 hact1
              rw [← e6] at hB2
              refine wpIn_mono (F := Fence.wide.inRound b) hB2 ?_
              rintro e c2 w2 ⟨hx2, μ2, hext2, hact2, hrep3⟩
              have hm2 := hext2.1 _ _ hm1
              split at h1
              · rename_i st3 pend3 fn3 nt3 tm3 ps3 as3 bd3 dd3 ho3
                obtain ⟨hB3, L3, d3, M3, hw3, r1, r2, r3, r4, r5, r6, r7, r8⟩ := hrep3.loop _ _ _ _ _ _ _ _ _ _ _ _ ho3 hm2
                have fin : ∀ (jump : Option Code) (bb : Bool), jump.isNone = bb → v = .sc (.bool bb) → H' = H2.set l (.loop (bif bb then .ready else .done) jump fn3 nt3 tm3 ps3 as3 bd3 dd3) →
                    ∃ v' w', (Instr.endRound b jump).run P w2 = .ok v' w' ∧ After P B w0 G μ H v H' (.returned v') w' := by
                  rintro jump bb hj rfl rfl
                  have hset := hrep3.setObj (oj := .loop (bif bb then .ready else .done) jump fn3 nt3 tm3 ps3 as3 bd3 dd3) (o := .loop { L3 with state := if jump.isNone then .ready else .done, pending := jump }) ho3 hm2 hB3 (by simp) (by simp) (by simp)
                    ⟨(by intro _ he; cases he), (by intro _ _ _ he; cases he), (by intro _ _ _ _ he; cases he), (by intro _ _ he; cases he), (by intro _ _ _ _ _ _ _ _ _ he; cases he; exact ⟨_, d3, M3, rfl, by rw [hj]; cases bb <;> rfl, rfl, r3, r4, r5, r6, r7, r8⟩), (by intro op he; cases he)⟩
                  refine ⟨.bool bb, withObjAt w2 b (.loop { L3 with state := if jump.isNone then .ready else .done, pending := jump }), ?_, .bool bb, μ2, rfl, ?_, rfl, hset⟩
                  · simp [Instr.endRound, Instr.getLoop, getObj, setObj, Sem.run, hw3, withObjAt, hj]
                  · exact hext1.trans ((Ext.same μ1 rfl).trans (hext2.trans (Ext.same μ2 rfl)))
                cases x with
                | normal =>
                  cases e <;> first | exact hx2.elim | skip
                  simp only [withObj_eq] at h1
                  simp at h1
                  exact fin none true rfl h1.1.symm h1.2.symm
                | ret =>
                  cases e <;> first | exact hx2.elim | skip
                  simp only [withObj_eq] at h1
                  simp at h1
                  exact fin (some .ret) false rfl h1.1.symm h1.2.symm
                | exit id =>
                  cases e <;> first | exact hx2.elim | skip
                  have hij : id = _ := hx2
                  subst hij
                  simp only [withObj_eq] at h1
                  simp at h1
                  exact fin (some (.exit id)) false rfl h1.1.symm h1.2.symm
                | goto t => cases h1
              · cases h1
            · cases h1
        · cases h1
      · cases h1
  · cases h

end
end Go.Eng

namespace Go.Eng
open Go.RowKit

section
variable {P : Program} {B : Nat} {w0 : World} {G : Sett}

/-- A function that leaves everything alone when it is a deferred call and nothing panics. -/
def StillFn (P : Program) (g : FuncId) : Prop := (∃ fn : Func, P.funcs[g]? = some fn ∧ fn.body.isSome = true) ∧
    ∀ args w, CallsDIn Fence.wide 0 P g args .returning w fun e u w' => (∃ v, e = .returned v) ∧ u = .returning ∧ w'.heap = w.heap ∧ Below w.heap.size w w'

theorem cb_ok (hm : P.follows .mixedOrders = true) (hN : NamesOK P) {O : FuncId → AV → AH → Option (AV × AH)} (hO : CallsOK P B w0 G O) {D : List FuncId} (hD : ∀ g ∈ D, StillFn P g) :
    ∀ n, CallOK P B w0 G (cb P G O D n) ∧ RoundOK P B w0 G (cb P G O D n) ∧ CodeOK P B w0 G (cb P G O D n)
  | 0 => ⟨⟨fun g h => hD g (by simpa [cb] using h), fun _ _ _ _ _ h => (by cases h)⟩, fun _ _ _ _ _ h => (by cases h), fun _ _ _ _ _ _ _ _ h => (by cases h)⟩
  | n + 1 => by
    obtain ⟨hC, hR, hK⟩ := cb_ok hm hN hO hD n
    refine ⟨⟨fun g h => hD g (by simpa [cb] using h), ?_⟩, ?_, ?_⟩
    · intro f args H v H' h
      simp only [cb] at h
      split at h
      · rename_i r ho
        cases h
        exact hO _ _ _ _ _ ho
      · exact callF_ok hK h
    · intro l xs H v H' h μ w b N ys hrep hmu hys
      exact roundF_ok hK h hrep hmu hys
    · intro ro fn cd a H x a' H' h μ w c ro' hro hrep ha
      exact codeF_ok hm hN hC hR hK h hro hrep ha

theorem noTold_ok : CallsOK P B w0 G noTold := fun _ _ _ _ _ h => by cases h

/-- A call that the abstract machine has run: the model's call from any world that the machine's heap describes. -/
theorem calls_of_run (hm : P.follows .mixedOrders = true) (hN : NamesOK P) {O : FuncId → AV → AH → Option (AV × AH)} (hO : CallsOK P B w0 G O) {D : List FuncId} (hD : ∀ g ∈ D, StillFn P g) {n : Nat} {f : FuncId} {args : AV} {H : AH} {v : AV} {H' : AH}
    (h : (cb P G O D n).call f args H = some (v, H')) {μ : Mu} {w : World} {xs : Array Value} (hrep : Rep P B w0 G μ H w) (hxs : LR μ args xs.toList) : Calls P f xs w (After P B w0 G μ H v H') :=
  callsIn_wide.1 (((cb_ok hm hN hO hD n).1.2 _ _ _ _ _ h).2 μ w xs hrep hxs)

end
end Go.Eng

namespace Go.Eng
open Go.RowKit

def ofInts (k : IntKind) : List Int → AV
  | [] => .nil
  | n :: t => .cons (.sc (.int k n)) (ofInts k t)
theorem ofInts_LR (μ : Mu) (k : IntKind) : ∀ zs : List Int, LR μ (ofInts k zs) (zs.map (Value.int k))
  | [] => rfl
  | _ :: t => LR.cons rfl (ofInts_LR μ k t)
theorem ofInts_len (k : IntKind) : ∀ zs : List Int, (ofInts k zs).len = zs.length
  | [] => rfl
  | _ :: t => by simp [ofInts, AV.len, ofInts_len k t]

section
variable {P : Program} {B : Nat} {w0 : World} {G : Sett}

/-- What a call left alone is still described. -/
theorem Rep.onto {μ : Mu} {H : AH} {w w' : World} (h : Rep P B w0 G μ H w) (hb : Below w.heap.size w w') : Rep P B w0 G μ H w' where
  resd := h.resd
  hdom := h.hdom
  fact := fun i t ho => let ⟨v, h1, h2⟩ := h.fact i t ho; ⟨v, h1, G.stable _ _ _ _ (Kept.of_below hb) h2⟩
  free := fun i b N e hB cs te fz q => h.free i b N e hB cs te fz (by rw [← hb.block b (h.dom i b N e).2]; exact q)
  below := h.below.trans (hb.mono h.baseNow)
  base := h.base
  dom := fun i b N e => ⟨(h.dom i b N e).1, Nat.lt_of_lt_of_le (h.dom i b N e).2 hb.size⟩
  glob := h.glob
  own := h.own
  sep := h.sep
  vtop := h.vtop
  tip := h.tip
  write := h.write
  cells := fun i fam ver e cs tip lw b N h1 h2 h3 h4 => by
    rw [hb.block b (h.dom i b N h4).2]; exact h.cells i fam ver e cs tip lw b N h1 h2 h3 h4
  map := fun i kt es b N h1 h2 => by
    rw [hb.block b (h.dom i b N h2).2]; exact h.map i kt es b N h1 h2
  loop := fun i st pend fn nt T ps as bd dd b N h1 h2 => by
    rw [hb.block b (h.dom i b N h2).2]; exact h.loop i st pend fn nt T ps as bd dd b N h1 h2
  defd := fun i op b N h1 h2 => by
    rw [hb.block b (h.dom i b N h2).2]; exact h.defd i op b N h1 h2

/-- The empty heap describes every world. -/
def bare (res : List TypeId) : AH where
  res := res
  next := 10
  objs := .nil
  fams := .nil
/-- Nothing is known, and nothing is opaque. -/
def noSett : Sett := ⟨[], [], fun _ _ _ => False, fun _ _ _ _ _ h => h⟩
theorem bare_rep {G : Sett} (hids : G.ids = []) (w : World) : Rep P w.heap.size w G ⟨fun _ => none, fun _ => none⟩ (bare G.res) w := by
  refine { resd := rfl, hdom := ?_, fact := ?_, free := ?_, below := Below.refl _ _, base := Nat.le_refl _, dom := ?_, glob := ?_, own := ?_, sep := ?_, vtop := ?_, tip := ?_, write := ?_, cells := ?_, map := ?_, loop := ?_, defd := ?_ }
  all_goals intros
  all_goals simp_all [bare, Tr.get]

/-- An opaque value is put into a heap. -/
def AH.hold (H : AH) (t : Tg) : AH := H.withNew (.opq t)
def Mu.hold (μ : Mu) (i : Nat) (v : Value) : Mu := ⟨μ.blk, fun j => if j = i then some v else μ.hd j⟩
theorem Rep.hold {μ : Mu} {H : AH} {w : World} (h : Rep P B w0 G μ H w) {t : Tg} {v : Value} (hi : G.I t v w) : Rep P B w0 G (μ.hold H.next v) (H.hold t) w ∧ Ext H μ (H.hold t) (μ.hold H.next v) ∧ (μ.hold H.next v).hd H.next = some v := by
  have hle : μ.le (μ.hold H.next v) := ⟨fun _ _ q => q, fun i x q => by
    have := h.hdom i x q
    simp only [Mu.hold]
    rw [if_neg (by omega)]; exact q⟩
  have get : ∀ {j o}, (H.hold t).objs.get j = some o → (j = H.next ∧ o = .opq t) ∨ (j < H.next ∧ H.objs.get j = some o) := by
    intro j o q
    rcases Tr.get_set deep H.objs H.next (some (.opq t)) j o q with ⟨h1, h2⟩ | ⟨_, h2⟩
    · exact .inl ⟨h1, (Option.some.inj h2).symm⟩
    · exact .inr ⟨(h.own _ _ h2).1, h2⟩
  have old : ∀ {j o}, (H.hold t).objs.get j = some o → (∀ t, o ≠ .opq t) → H.objs.get j = some o := by
    intro j o q hn
    rcases get q with ⟨_, h1⟩ | ⟨_, h1⟩
    · exact absurd h1 (hn t)
    · exact h1
  have cls : ∀ {j o}, (H.hold t).objs.get j = some o → (j = H.next ∧ o.cls j = H.next) ∨ (H.objs.get j = some o) := by
    intro j o q
    rcases get q with ⟨rfl, rfl⟩ | ⟨_, h1⟩
    · exact .inl ⟨rfl, rfl⟩
    · exact .inr h1
  have hun := h.notYet (i := H.next) (Nat.le_refl _)
  refine ⟨⟨h.resd, ?_, ?_, h.free, h.below, h.base, fun i b N e => ⟨Nat.lt_succ_of_lt (h.dom i b N e).1, (h.dom i b N e).2⟩, h.glob, ?_, ?_, ?_, ?_, ?_, ?_, ?_, ?_, ?_⟩, ⟨hle, Nat.le_succ _, fun _ _ q => q⟩, if_pos rfl⟩
  · intro i x q
    simp only [Mu.hold] at q
    split at q
    · rename_i e; subst e; exact Nat.lt_succ_self _
    · exact Nat.lt_succ_of_lt (h.hdom i x q)
  · intro i t' q
    rcases get q with ⟨rfl, h1⟩ | ⟨hlt, h1⟩
    · cases h1; exact ⟨v, if_pos rfl, hi⟩
    · obtain ⟨x, h2, h3⟩ := h.fact _ _ h1
      exact ⟨x, hle.hd _ _ h2, h3⟩
  · intro i o q
    rcases get q with ⟨rfl, rfl⟩ | ⟨hlt, h1⟩
    · exact ⟨Nat.lt_succ_self _, Nat.lt_succ_self _⟩
    · exact ⟨Nat.lt_succ_of_lt hlt, Nat.lt_succ_of_lt (h.own _ _ h1).2⟩
  · intro i j oi oj b N M h1 h2 h3 h4
    rcases cls h1 with ⟨rfl, _⟩ | k1
    · have : μ H.next = some (b, N) := h3
      rw [hun] at this; cases this
    · rcases cls h2 with ⟨rfl, _⟩ | k2
      · have : μ H.next = some (b, M) := h4
        rw [hun] at this; cases this
      · exact h.sep i j oi oj b N M k1 k2 h3 h4
  · exact fun i j fam vi ei ci vj ej cj lw h1 h2 h3 hne => h.vtop _ _ _ _ _ _ _ _ _ _ (old h1 (by simp)) (old h2 (by simp)) h3 hne
  · exact fun i j fam vi ei ci vj ej cj lw b N M h1 h2 h3 h4 h5 h6 => h.tip _ _ _ _ _ _ _ _ _ _ _ _ _ (old h1 (by simp)) (old h2 (by simp)) h3 h4 h5 h6
  · exact fun i fam ver e cs lw b N h1 h2 h3 => h.write _ _ _ _ _ _ _ _ (old h1 (by simp)) h2 h3
  · intro i fam ver e cs tip lw b N h1 h2 h3 h4
    obtain ⟨arr, te, fz, g1, g2, g3, g4, g5⟩ := h.cells _ _ _ _ _ _ _ _ _ (old h1 (by simp)) h2 h3 h4
    exact ⟨arr, te, fz, g1, g2, g3, g4.mono hle, g5⟩
  · intro i kt es b N h1 h2
    obtain ⟨g1, en, cl, g2, g3⟩ := h.map _ _ _ _ _ (old h1 (by simp)) h2
    exact ⟨g1, en, cl, g2, g3.mono hle⟩
  · intro i st pend fn nt T ps as bd dd b N h1 h2
    obtain ⟨g1, L, d, M, g2, g3, g4, g5, g6, g7, g8, g9, g10⟩ := h.loop _ _ _ _ _ _ _ _ _ _ _ _ (old h1 (by simp)) h2
    exact ⟨g1, L, d, M, g2, g3, g4, g5.mono hle, g6, g7, g8, g9, g10⟩
  · exact fun i op b N h1 h2 => h.defd _ _ _ _ (old h1 (by simp)) h2

/-- A function that is told: its answer is a value, and it leaves what was there alone. -/
theorem told_ok {O : FuncId → AV → AH → Option (AV × AH)} (h : ∀ f args H v H', O f args H = some (v, H') → (∃ fn : Func, P.funcs[f]? = some fn ∧ fn.body.isSome = true) ∧ H' = H ∧
    ∀ μ w (xs : Array Value), Rep P B w0 G μ H w → LR μ args xs.toList → Calls P f xs w fun e w' => ∃ x, e = .returned x ∧ VR μ v x ∧ Below w.heap.size w w') : CallsOK P B w0 G O := by
  intro f args H v H' ho
  obtain ⟨h1, rfl, h2⟩ := h _ _ _ _ _ ho
  refine ⟨h1, fun μ w xs hrep hxs => callsIn_wide.2 ((h2 μ w xs hrep hxs).mono ?_)⟩
  rintro e w' ⟨x, rfl, hv, hb⟩
  exact ⟨x, μ, rfl, Ext.refl _ _, hv, hrep.onto hb⟩

theorem namesOK_of (h : (P.funcs.all fun fn => !(fn.body.isSome && fn.name == "runtime.NumGoroutine")) = true) : NamesOK P := by
  intro f fn hf hb
  obtain ⟨hlt, rfl⟩ := Array.getElem?_eq_some_iff.1 hf
  have := (Array.all_eq_true.1 h) f hlt
  rw [hb] at this
  simpa using this

end
end Go.Eng
